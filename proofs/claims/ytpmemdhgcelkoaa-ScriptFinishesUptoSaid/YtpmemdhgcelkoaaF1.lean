/- The walk, part 1: each Go function as a plain Lean function, and that its call answers as that function says. No condition. -/
import Derived.Test.YtpmemdhgcelkoaaE
import Derived.Test.YtpmemdhgcelkoaaNG
set_option linter.unusedVariables false
set_option linter.unusedSimpArgs false
set_option maxRecDepth 100000
namespace Go.Proofs.Ytpmemdhgcelkoaa.K
open Go Go.RowKit
noncomputable section
noncomputable def cd5 (p : List Nat) : Code := sub (bodyOf Try.f5) p
def weirlaw15_Graph__small.f (a0 : weirlaw15_Graph) : Option Bool :=
  (if (decide ((a0.To.length : Int) ≤ 200)) = true then some (true) else some (false))
set_option maxHeartbeats 16000000 in
theorem weirlaw15_Graph__small.ok (a0 : weirlaw15_Graph) (Aa0_0 : Option Addr) (ca0_0 : Nat) {w0 : World} {Z : Zm} {fs : List XObj} {w : World} (hS0 : St w0 Z (fs) w) (ha0_0 : SlZ (repL (flat (encI .i64)) 1) 1 Z Aa0_0 ca0_0 a0.To) {q0 : Bool} (hp0 : weirlaw15_Graph__small.f a0 = some q0) :
    Calls Try.prog 5 #[.agg #[.slice Aa0_0 a0.To.length ca0_0, .int .u64 a0.Ends, .bool a0.Odd, .int .i64 a0.Holes]] w (fun e w' => e = .returned (.bool q0) ∧ St w0 Z (fs) w') := by
  refine calls_abs ?_; intro R hR
  unfold weirlaw15_Graph__small.f at hp0
  refine calls_of_runs (fn := Try.f5) (c := cd5 []) Try.func5 (by kernel_rfl) (al := [.agg #[.slice Aa0_0 a0.To.length ca0_0, .int .u64 a0.Ends, .bool a0.Odd, .int .i64 a0.Holes]]) rfl (n := 6) rfl ?_
  refine sx_run 2 (todo' := [.inRegion (opsOf (cd5 [0])) [0, 1], .code (cd5 [1])]) (us := []) (by kernel_rfl) ?_
  refine r_box (c := (cd5 [0])) (i := 0) (d := (some 1)) (ty := 0) (x := (.tmp 0)) (v := .agg #[.slice Aa0_0 a0.To.length ca0_0, .int .u64 a0.Ends, .bool a0.Odd, .int .i64 a0.Holes]) (t := 25) (cs := [.slice Aa0_0 a0.To.length ca0_0, .int .u64 a0.Ends, .bool a0.Odd, .int .i64 a0.Holes]) hS0 (by kernel_rfl) (by kernel_rfl) (by kernel_rfl) (by kernel_rfl) ?_
  intro b1 w2 hS3
  refine sx_run 5 (todo' := [.inRegion (opsOf (cd5 [1, 0])) [1, 2, 3, 4], .code (cd5 [1, 1])]) (us := [(2, .bool false), (3, .pointer (some ⟨b1, 0, none⟩))]) (by kernel_rfl) ?_
  refine r_load (c := (cd5 [1, 0])) (i := 1) (d := (some 4)) (ty := 22) (t := 22) (x := (.tmp 3)) (p := ⟨b1, 0, none⟩) (v := .slice Aa0_0 a0.To.length ca0_0) (by kernel_rfl) (by kernel_rfl) (by kernel_rfl) (loads_at 0 (hS3.blk 0 rfl) (by kernel_rfl) (by kernel_rfl)) ?_
  refine sx_split 2 (todo' := [.inRegion (opsOf (cd5 [1, 0])) [4], .code (cd5 [1, 1])]) (us := [(5, .int .i64 (a0.To.length : Int))]) (d := 6) (t := (decide ((a0.To.length : Int) ≤ 200))) (by kernel_rfl) (fun h5 => ?_) (fun h6 => ?_)
  ·skip
   have hp7 := ite_t hp0 h5
   refine sx_run 2 (todo' := [.code (cd5 [1, 1])]) (us := [(2, .bool true)]) (by kernel_rfl) ?_
   have hS8 := hS3.drop
   refine runs_ret (fn := Try.f5) (v := .bool true) Try.func5 (by kernel_rfl) ?_
   have hr9 := (Option.some.inj hp7)
   cases hr9
   exact hR _ _ ⟨rfl, hS8⟩
  ·skip
   have hp10 := ite_f hp0 h6
   refine sx_run 2 (todo' := [.code (cd5 [1, 1])]) (us := [(2, .bool false)]) (by kernel_rfl) ?_
   have hS11 := hS3.drop
   refine runs_ret (fn := Try.f5) (v := .bool false) Try.func5 (by kernel_rfl) ?_
   have hr12 := (Option.some.inj hp10)
   cases hr12
   exact hR _ _ ⟨rfl, hS11⟩

noncomputable def cd6 (p : List Nat) : Code := sub (bodyOf Try.f6) p
def weirlaw15_Graph__Machine.f (a0 : weirlaw15_Graph) : Option (ByteArray × Bool × weirlaw15_Graph × Bool × Bool) :=
  (((if ((band .i64 a0.Holes 1) == 0) = true then some (((⟨#[0]⟩ : ByteArray), true)) else some (((⟨#[0]⟩ : ByteArray), false))) : Option (ByteArray × Bool)) >>= (fun (t24, t25) => (((if ((band .i64 a0.Holes 2) == 0) = true then some ((t24, t25, true)) else some ((t24, t25, false))) : Option (ByteArray × Bool × Bool)) >>= (fun (t34, t35, t36) => (((if ((band .i64 a0.Holes 4) == 0) = true then some ((t34, t35, t36, true)) else some ((t34, t35, t36, false))) : Option (ByteArray × Bool × Bool × Bool)) >>= (fun (t45, t46, t47, t48) => some ((t45, t46, (⟨a0.To, a0.Ends, a0.Odd, a0.Holes⟩ : weirlaw15_Graph), t47, t48))))))))
set_option maxHeartbeats 16000000 in
theorem weirlaw15_Graph__Machine.ok (a0 : weirlaw15_Graph) (Aa0_0 : Option Addr) (ca0_0 : Nat) {w0 : World} {Z : Zm} {fs : List XObj} {w : World} (hS0 : St w0 Z (fs) w) (ha0_0 : SlZ (repL (flat (encI .i64)) 1) 1 Z Aa0_0 ca0_0 a0.To) {q0 : ByteArray} {q1 : Bool} {q2 : weirlaw15_Graph} {q3 : Bool} {q4 : Bool} (hp0 : weirlaw15_Graph__Machine.f a0 = some (q0, q1, q2, q3, q4)) :
    Calls Try.prog 6 #[.agg #[.slice Aa0_0 a0.To.length ca0_0, .int .u64 a0.Ends, .bool a0.Odd, .int .i64 a0.Holes]] w (fun e w' => ∃ (Qb0 : Nat) (Qb1 : Nat) (QA2 : Option Addr) (Qc2 : Nat), e = .returned (.agg #[.string q0, cond q1 (.func (.func 21) #[] #[.pointer (some ⟨Qb0, 0, none⟩), .pointer (some ⟨Qb1, 0, none⟩)]) .nilFunc, cond q3 (.func (.func 22) #[] #[.pointer (some ⟨Qb0, 0, none⟩), .pointer (some ⟨Qb1, 0, none⟩)]) .nilFunc, cond q4 (.func (.func 23) #[] #[.pointer (some ⟨Qb0, 0, none⟩), .pointer (some ⟨Qb1, 0, none⟩)]) .nilFunc]) ∧ St w0 Z (xblk Qb0 53 ([.func (.func 20) #[] #[.pointer (some ⟨Qb1, 0, none⟩)]]) :: xblk Qb1 25 ([.slice QA2 q2.To.length Qc2, .int .u64 q2.Ends, .bool q2.Odd, .int .i64 q2.Holes]) :: fs) w' ∧ SlZ (repL (flat (encI .i64)) 1) 1 Z QA2 Qc2 q2.To) := by
  refine calls_abs ?_; intro R hR
  unfold weirlaw15_Graph__Machine.f at hp0
  refine calls_of_runs (fn := Try.f6) (c := cd6 []) Try.func6 (by kernel_rfl) (al := [.agg #[.slice Aa0_0 a0.To.length ca0_0, .int .u64 a0.Ends, .bool a0.Odd, .int .i64 a0.Holes]]) rfl (n := 25) rfl ?_
  refine sx_run 2 (todo' := [.inRegion (opsOf (cd6 [0])) [0, 1], .code (cd6 [1])]) (us := []) (by kernel_rfl) ?_
  refine r_box (c := (cd6 [0])) (i := 0) (d := (some 1)) (ty := 0) (x := (.tmp 0)) (v := .agg #[.slice Aa0_0 a0.To.length ca0_0, .int .u64 a0.Ends, .bool a0.Odd, .int .i64 a0.Holes]) (t := 25) (cs := [.slice Aa0_0 a0.To.length ca0_0, .int .u64 a0.Ends, .bool a0.Odd, .int .i64 a0.Holes]) hS0 (by kernel_rfl) (by kernel_rfl) (by kernel_rfl) (by kernel_rfl) ?_
  intro b1 w2 hS3
  refine r_alloc (c := (cd6 [0])) (i := 1) (d := (some 2)) (ty := 0) (z := .agg #[.string (⟨#[]⟩ : ByteArray), .nilFunc, .nilFunc, .nilFunc]) (t := 31) (cs := [.string (⟨#[]⟩ : ByteArray), .nilFunc, .nilFunc, .nilFunc]) hS3 (by kernel_rfl) (by kernel_rfl) (by kernel_rfl) (by kernel_rfl) ?_
  intro b5 w6 hS7
  refine sx_run 4 (todo' := [.inRegion (opsOf (cd6 [1, 0])) [1, 2], .code (cd6 [1, 1])]) (us := [(5, .func (.func 20) #[] #[.pointer (some ⟨b1, 0, none⟩)])]) (by kernel_rfl) ?_
  refine r_alloc (c := (cd6 [1, 0])) (i := 1) (d := (some 3)) (ty := 0) (z := .nilFunc) (t := 53) (cs := [.nilFunc]) hS7 (by kernel_rfl) (by kernel_rfl) (by kernel_rfl) (by kernel_rfl) ?_
  intro b9 w10 hS11
  refine r_store (c := (cd6 [1, 0])) (i := 2) (d := none) (ty := 0) (t := 53) (x := (.tmp 3)) (y := (.tmp 5)) (b := b9) (o := 0) (e := 53) (cs := [.nilFunc]) (v := .func (.func 20) #[] #[.pointer (some ⟨b1, 0, none⟩)]) (vs := [.func (.func 20) #[] #[.pointer (some ⟨b1, 0, none⟩)]]) (cs' := [.func (.func 20) #[] #[.pointer (some ⟨b1, 0, none⟩)]]) hS11 (by kernel_rfl) (by kernel_rfl) (by kernel_rfl) (by kernel_rfl) (by kernel_rfl) (by kernel_rfl) (by kernel_rfl) (Nat.le_of_ble_eq_true (by kernel_rfl)) (by kernel_rfl) ?_
  intro w13 hS14
  refine sx_run 4 (todo' := [.inRegion (opsOf (cd6 [1, 1, 0])) [1, 2], .code (cd6 [1, 1, 1])]) (us := [(6, .agg #[.string (⟨#[0]⟩ : ByteArray), .nilFunc, .nilFunc, .nilFunc])]) (by kernel_rfl) ?_
  refine r_alloc (c := (cd6 [1, 1, 0])) (i := 1) (d := (some 4)) (ty := 0) (z := .agg #[.string (⟨#[]⟩ : ByteArray), .nilFunc, .nilFunc, .nilFunc]) (t := 31) (cs := [.string (⟨#[]⟩ : ByteArray), .nilFunc, .nilFunc, .nilFunc]) hS14 (by kernel_rfl) (by kernel_rfl) (by kernel_rfl) (by kernel_rfl) ?_
  intro b15 w16 hS17
  refine r_store (c := (cd6 [1, 1, 0])) (i := 2) (d := none) (ty := 0) (t := 31) (x := (.tmp 4)) (y := (.tmp 6)) (b := b15) (o := 0) (e := 31) (cs := [.string (⟨#[]⟩ : ByteArray), .nilFunc, .nilFunc, .nilFunc]) (v := .agg #[.string (⟨#[0]⟩ : ByteArray), .nilFunc, .nilFunc, .nilFunc]) (vs := [.string (⟨#[0]⟩ : ByteArray), .nilFunc, .nilFunc, .nilFunc]) (cs' := [.string (⟨#[0]⟩ : ByteArray), .nilFunc, .nilFunc, .nilFunc]) hS17 (by kernel_rfl) (by kernel_rfl) (by kernel_rfl) (by kernel_rfl) (by kernel_rfl) (by kernel_rfl) (by kernel_rfl) (Nat.le_of_ble_eq_true (by kernel_rfl)) (by kernel_rfl) ?_
  intro w19 hS20
  refine sx_run 5 (todo' := [.inRegion (opsOf (cd6 [1, 1, 1, 0, 0])) [1, 2, 3], .code (cd6 [1, 1, 1, 0, 1]), .code (cd6 [1, 1, 1, 1])]) (us := [(7, .pointer (some ⟨b1, 3, none⟩))]) (by kernel_rfl) ?_
  refine r_load (c := (cd6 [1, 1, 1, 0, 0])) (i := 1) (d := (some 8)) (ty := 3) (t := 3) (x := (.tmp 7)) (p := ⟨b1, 3, none⟩) (v := .int .i64 a0.Holes) (by kernel_rfl) (by kernel_rfl) (by kernel_rfl) (loads_at 3 (hS20.blk 3 rfl) (by kernel_rfl) (by kernel_rfl)) ?_
  obtain ⟨v21, hv22, hp23⟩ := bind_some' hp0
  have J28 : ∀ (t24 : ByteArray) (t25 : Bool) (he30 : (t24, t25) = v21) (l29 : List Value) (w26 : World) (hS27 : St w0 Z (xblk b1 25 ([.slice Aa0_0 a0.To.length ca0_0, .int .u64 a0.Ends, .bool a0.Odd, .int .i64 a0.Holes]) :: xblk b5 31 ([.string (⟨#[]⟩ : ByteArray), .nilFunc, .nilFunc, .nilFunc]) :: xblk b9 53 ([.func (.func 20) #[] #[.pointer (some ⟨b1, 0, none⟩)]]) :: xblk b15 31 ([.string t24, cond t25 (.func (.func 21) #[] #[.pointer (some ⟨b9, 0, none⟩), .pointer (some ⟨b1, 0, none⟩)]) .nilFunc, .nilFunc, .nilFunc]) :: fs) w26), Runs Try.prog 6 [.code (cd6 [1, 1, 1, 1])] (fill [none, some (.pointer (some ⟨b1, 0, none⟩)), some (.pointer (some ⟨b5, 0, none⟩)), some (.pointer (some ⟨b9, 0, none⟩)), some (.pointer (some ⟨b15, 0, none⟩)), none, none, none, none, none, none, none, none, none, none, none, none, none, none, none, none, none, none, none, none, none] l29) w26 R := by
   intro t24 t25 he30 l29 w26 hS27
   subst he30
   try dsimp only at hp23
   refine sx_run 4 (todo' := [.inRegion (opsOf (cd6 [1, 1, 1, 1, 0, 0])) [1, 2, 3], .code (cd6 [1, 1, 1, 1, 0, 1]), .code (cd6 [1, 1, 1, 1, 1])]) (us := [(13, .pointer (some ⟨b1, 3, none⟩))]) (by kernel_rfl) ?_
   refine r_load (c := (cd6 [1, 1, 1, 1, 0, 0])) (i := 1) (d := (some 14)) (ty := 3) (t := 3) (x := (.tmp 13)) (p := ⟨b1, 3, none⟩) (v := .int .i64 a0.Holes) (by kernel_rfl) (by kernel_rfl) (by kernel_rfl) (loads_at 3 (hS27.blk 0 rfl) (by kernel_rfl) (by kernel_rfl)) ?_
   obtain ⟨v31, hv32, hp33⟩ := bind_some' hp23
   have J39 : ∀ (t34 : ByteArray) (t35 : Bool) (t36 : Bool) (he41 : (t34, t35, t36) = v31) (l40 : List Value) (w37 : World) (hS38 : St w0 Z (xblk b1 25 ([.slice Aa0_0 a0.To.length ca0_0, .int .u64 a0.Ends, .bool a0.Odd, .int .i64 a0.Holes]) :: xblk b5 31 ([.string (⟨#[]⟩ : ByteArray), .nilFunc, .nilFunc, .nilFunc]) :: xblk b9 53 ([.func (.func 20) #[] #[.pointer (some ⟨b1, 0, none⟩)]]) :: xblk b15 31 ([.string t34, cond t35 (.func (.func 21) #[] #[.pointer (some ⟨b9, 0, none⟩), .pointer (some ⟨b1, 0, none⟩)]) .nilFunc, cond t36 (.func (.func 22) #[] #[.pointer (some ⟨b9, 0, none⟩), .pointer (some ⟨b1, 0, none⟩)]) .nilFunc, .nilFunc]) :: fs) w37), Runs Try.prog 6 [.code (cd6 [1, 1, 1, 1, 1])] (fill [none, some (.pointer (some ⟨b1, 0, none⟩)), some (.pointer (some ⟨b5, 0, none⟩)), some (.pointer (some ⟨b9, 0, none⟩)), some (.pointer (some ⟨b15, 0, none⟩)), none, none, none, none, none, none, none, none, none, none, none, none, none, none, none, none, none, none, none, none, none] l40) w37 R := by
    intro t34 t35 t36 he41 l40 w37 hS38
    subst he41
    try dsimp only at hp33
    refine sx_run 4 (todo' := [.inRegion (opsOf (cd6 [1, 1, 1, 1, 1, 0, 0])) [1, 2, 3], .code (cd6 [1, 1, 1, 1, 1, 0, 1]), .code (cd6 [1, 1, 1, 1, 1, 1])]) (us := [(19, .pointer (some ⟨b1, 3, none⟩))]) (by kernel_rfl) ?_
    refine r_load (c := (cd6 [1, 1, 1, 1, 1, 0, 0])) (i := 1) (d := (some 20)) (ty := 3) (t := 3) (x := (.tmp 19)) (p := ⟨b1, 3, none⟩) (v := .int .i64 a0.Holes) (by kernel_rfl) (by kernel_rfl) (by kernel_rfl) (loads_at 3 (hS38.blk 0 rfl) (by kernel_rfl) (by kernel_rfl)) ?_
    obtain ⟨v42, hv43, hp44⟩ := bind_some' hp33
    have J51 : ∀ (t45 : ByteArray) (t46 : Bool) (t47 : Bool) (t48 : Bool) (he53 : (t45, t46, t47, t48) = v42) (l52 : List Value) (w49 : World) (hS50 : St w0 Z (xblk b5 31 ([.string (⟨#[]⟩ : ByteArray), .nilFunc, .nilFunc, .nilFunc]) :: xblk b15 31 ([.string t45, cond t46 (.func (.func 21) #[] #[.pointer (some ⟨b9, 0, none⟩), .pointer (some ⟨b1, 0, none⟩)]) .nilFunc, cond t47 (.func (.func 22) #[] #[.pointer (some ⟨b9, 0, none⟩), .pointer (some ⟨b1, 0, none⟩)]) .nilFunc, cond t48 (.func (.func 23) #[] #[.pointer (some ⟨b9, 0, none⟩), .pointer (some ⟨b1, 0, none⟩)]) .nilFunc]) :: xblk b9 53 ([.func (.func 20) #[] #[.pointer (some ⟨b1, 0, none⟩)]]) :: xblk b1 25 ([.slice Aa0_0 a0.To.length ca0_0, .int .u64 a0.Ends, .bool a0.Odd, .int .i64 a0.Holes]) :: fs) w49), Runs Try.prog 6 [.code (cd6 [1, 1, 1, 1, 1, 1])] (fill [none, none, some (.pointer (some ⟨b5, 0, none⟩)), none, some (.pointer (some ⟨b15, 0, none⟩)), none, none, none, none, none, none, none, none, none, none, none, none, none, none, none, none, none, none, none, none, none] l52) w49 R := by
     intro t45 t46 t47 t48 he53 l52 w49 hS50
     subst he53
     try dsimp only at hp44
     refine sx_run 2 (todo' := [.inRegion (opsOf (cd6 [1, 1, 1, 1, 1, 1, 0])) [0, 1], .code (cd6 [1, 1, 1, 1, 1, 1, 1])]) (us := []) (by kernel_rfl) ?_
     refine r_load (c := (cd6 [1, 1, 1, 1, 1, 1, 0])) (i := 0) (d := (some 25)) (ty := 31) (t := 31) (x := (.tmp 4)) (p := ⟨b15, 0, none⟩) (v := .agg #[.string t45, cond t46 (.func (.func 21) #[] #[.pointer (some ⟨b9, 0, none⟩), .pointer (some ⟨b1, 0, none⟩)]) .nilFunc, cond t47 (.func (.func 22) #[] #[.pointer (some ⟨b9, 0, none⟩), .pointer (some ⟨b1, 0, none⟩)]) .nilFunc, cond t48 (.func (.func 23) #[] #[.pointer (some ⟨b9, 0, none⟩), .pointer (some ⟨b1, 0, none⟩)]) .nilFunc]) (by kernel_rfl) (by kernel_rfl) (by kernel_rfl) (loads_agg (hS50.blk 1 rfl) (by kernel_rfl) (by kernel_rfl)) ?_
     refine r_store (c := (cd6 [1, 1, 1, 1, 1, 1, 0])) (i := 1) (d := none) (ty := 0) (t := 31) (x := (.tmp 2)) (y := (.tmp 25)) (b := b5) (o := 0) (e := 31) (cs := [.string (⟨#[]⟩ : ByteArray), .nilFunc, .nilFunc, .nilFunc]) (v := .agg #[.string t45, cond t46 (.func (.func 21) #[] #[.pointer (some ⟨b9, 0, none⟩), .pointer (some ⟨b1, 0, none⟩)]) .nilFunc, cond t47 (.func (.func 22) #[] #[.pointer (some ⟨b9, 0, none⟩), .pointer (some ⟨b1, 0, none⟩)]) .nilFunc, cond t48 (.func (.func 23) #[] #[.pointer (some ⟨b9, 0, none⟩), .pointer (some ⟨b1, 0, none⟩)]) .nilFunc]) (vs := [.string t45, cond t46 (.func (.func 21) #[] #[.pointer (some ⟨b9, 0, none⟩), .pointer (some ⟨b1, 0, none⟩)]) .nilFunc, cond t47 (.func (.func 22) #[] #[.pointer (some ⟨b9, 0, none⟩), .pointer (some ⟨b1, 0, none⟩)]) .nilFunc, cond t48 (.func (.func 23) #[] #[.pointer (some ⟨b9, 0, none⟩), .pointer (some ⟨b1, 0, none⟩)]) .nilFunc]) (cs' := [.string t45, cond t46 (.func (.func 21) #[] #[.pointer (some ⟨b9, 0, none⟩), .pointer (some ⟨b1, 0, none⟩)]) .nilFunc, cond t47 (.func (.func 22) #[] #[.pointer (some ⟨b9, 0, none⟩), .pointer (some ⟨b1, 0, none⟩)]) .nilFunc, cond t48 (.func (.func 23) #[] #[.pointer (some ⟨b9, 0, none⟩), .pointer (some ⟨b1, 0, none⟩)]) .nilFunc]) hS50 (by kernel_rfl) (by kernel_rfl) (by kernel_rfl) (by kernel_rfl) (by kernel_rfl) (by kernel_rfl) (by cases t46 <;> cases t47 <;> cases t48 <;> rfl) (Nat.le_of_ble_eq_true (by kernel_rfl)) (by kernel_rfl) ?_
     intro w54 hS55
     refine sx_run 1 (todo' := [.code (cd6 [1, 1, 1, 1, 1, 1, 1])]) (us := []) (by kernel_rfl) ?_
     have hS56 := hS55.drop
     have hS57 := hS56.drop
     refine runs_ret (fn := Try.f6) (v := .agg #[.string t45, cond t46 (.func (.func 21) #[] #[.pointer (some ⟨b9, 0, none⟩), .pointer (some ⟨b1, 0, none⟩)]) .nilFunc, cond t47 (.func (.func 22) #[] #[.pointer (some ⟨b9, 0, none⟩), .pointer (some ⟨b1, 0, none⟩)]) .nilFunc, cond t48 (.func (.func 23) #[] #[.pointer (some ⟨b9, 0, none⟩), .pointer (some ⟨b1, 0, none⟩)]) .nilFunc]) Try.func6 (resl_run (fn := Try.f6) (by kernel_rfl) (.cell (t := 2) (ty := 31) (by kernel_rfl) (loads_agg (hS55.blk 0 rfl) (by kernel_rfl) (by kernel_rfl)) .nil)) ?_
     have hr58 := (Option.some.inj hp44)
     cases hr58
     exact hR _ _ ⟨b9, b1, Aa0_0, ca0_0, rfl, hS57, ha0_0⟩
    refine sx_split 2 (todo' := [.inRegion (opsOf (cd6 [1, 1, 1, 1, 1, 0, 0])) [], .code (cd6 [1, 1, 1, 1, 1, 0, 1]), .code (cd6 [1, 1, 1, 1, 1, 1])]) (us := [(21, .int .i64 (band .i64 a0.Holes 4))]) (d := 22) (t := ((band .i64 a0.Holes 4) == 0)) (by kernel_rfl) (fun h59 => ?_) (fun h60 => ?_)
    ·skip
     have hp61 := ite_t hv43 h59
     refine sx_run 5 (todo' := [.inRegion (opsOf (cd6 [1, 1, 1, 1, 1, 0, 1, 0])) [2], .code (cd6 [1, 1, 1, 1, 1, 1])]) (us := [(23, .func (.func 23) #[] #[.pointer (some ⟨b9, 0, none⟩), .pointer (some ⟨b1, 0, none⟩)]), (24, .pointer (some ⟨b15, 3, none⟩))]) (by kernel_rfl) ?_
     have hS62 := hS38.pick3
     refine r_store (c := (cd6 [1, 1, 1, 1, 1, 0, 1, 0])) (i := 2) (d := none) (ty := 0) (t := 29) (x := (.tmp 24)) (y := (.tmp 23)) (b := b15) (o := 3) (e := 31) (cs := [.string t34, cond t35 (.func (.func 21) #[] #[.pointer (some ⟨b9, 0, none⟩), .pointer (some ⟨b1, 0, none⟩)]) .nilFunc, cond t36 (.func (.func 22) #[] #[.pointer (some ⟨b9, 0, none⟩), .pointer (some ⟨b1, 0, none⟩)]) .nilFunc, .nilFunc]) (v := .func (.func 23) #[] #[.pointer (some ⟨b9, 0, none⟩), .pointer (some ⟨b1, 0, none⟩)]) (vs := [.func (.func 23) #[] #[.pointer (some ⟨b9, 0, none⟩), .pointer (some ⟨b1, 0, none⟩)]]) (cs' := [.string t34, cond t35 (.func (.func 21) #[] #[.pointer (some ⟨b9, 0, none⟩), .pointer (some ⟨b1, 0, none⟩)]) .nilFunc, cond t36 (.func (.func 22) #[] #[.pointer (some ⟨b9, 0, none⟩), .pointer (some ⟨b1, 0, none⟩)]) .nilFunc, .func (.func 23) #[] #[.pointer (some ⟨b9, 0, none⟩), .pointer (some ⟨b1, 0, none⟩)]]) hS62 (by kernel_rfl) (by kernel_rfl) (by kernel_rfl) (by kernel_rfl) (by kernel_rfl) (by kernel_rfl) (by kernel_rfl) (Nat.le_of_ble_eq_true (by kernel_rfl)) (by kernel_rfl) ?_
     intro w63 hS64
     refine sx_run 1 (todo' := [.code (cd6 [1, 1, 1, 1, 1, 1])]) (us := []) (by kernel_rfl) ?_
     have hS65 := hS64.pick1
     have hS66 := hS65.pick3
     have hS67 := hS66.pick2
     have hS68 := hS67.pick3
     refine Runs.fill (m := [none, none, some (.pointer (some ⟨b5, 0, none⟩)), none, some (.pointer (some ⟨b15, 0, none⟩)), none, none, none, none, none, none, none, none, none, none, none, none, none, none, none, none, none, none, none, none, none]) (by kernel_rfl) ?_
     exact J51 t34 t35 t36 true (Option.some.inj hp61) _ _ hS68
    ·skip
     have hp69 := ite_f hv43 h60
     refine sx_run 3 (todo' := [.code (cd6 [1, 1, 1, 1, 1, 1])]) (us := []) (by kernel_rfl) ?_
     have hS70 := hS38.pick2
     have hS71 := hS70.pick3
     have hS72 := hS71.pick3
     refine Runs.fill (m := [none, none, some (.pointer (some ⟨b5, 0, none⟩)), none, some (.pointer (some ⟨b15, 0, none⟩)), none, none, none, none, none, none, none, none, none, none, none, none, none, none, none, none, none, none, none, none, none]) (by kernel_rfl) ?_
     exact J51 t34 t35 t36 false (Option.some.inj hp69) _ _ hS72
   refine sx_split 2 (todo' := [.inRegion (opsOf (cd6 [1, 1, 1, 1, 0, 0])) [], .code (cd6 [1, 1, 1, 1, 0, 1]), .code (cd6 [1, 1, 1, 1, 1])]) (us := [(15, .int .i64 (band .i64 a0.Holes 2))]) (d := 16) (t := ((band .i64 a0.Holes 2) == 0)) (by kernel_rfl) (fun h73 => ?_) (fun h74 => ?_)
   ·skip
    have hp75 := ite_t hv32 h73
    refine sx_run 5 (todo' := [.inRegion (opsOf (cd6 [1, 1, 1, 1, 0, 1, 0])) [2], .code (cd6 [1, 1, 1, 1, 1])]) (us := [(17, .func (.func 22) #[] #[.pointer (some ⟨b9, 0, none⟩), .pointer (some ⟨b1, 0, none⟩)]), (18, .pointer (some ⟨b15, 2, none⟩))]) (by kernel_rfl) ?_
    have hS76 := hS27.pick3
    refine r_store (c := (cd6 [1, 1, 1, 1, 0, 1, 0])) (i := 2) (d := none) (ty := 0) (t := 28) (x := (.tmp 18)) (y := (.tmp 17)) (b := b15) (o := 2) (e := 31) (cs := [.string t24, cond t25 (.func (.func 21) #[] #[.pointer (some ⟨b9, 0, none⟩), .pointer (some ⟨b1, 0, none⟩)]) .nilFunc, .nilFunc, .nilFunc]) (v := .func (.func 22) #[] #[.pointer (some ⟨b9, 0, none⟩), .pointer (some ⟨b1, 0, none⟩)]) (vs := [.func (.func 22) #[] #[.pointer (some ⟨b9, 0, none⟩), .pointer (some ⟨b1, 0, none⟩)]]) (cs' := [.string t24, cond t25 (.func (.func 21) #[] #[.pointer (some ⟨b9, 0, none⟩), .pointer (some ⟨b1, 0, none⟩)]) .nilFunc, .func (.func 22) #[] #[.pointer (some ⟨b9, 0, none⟩), .pointer (some ⟨b1, 0, none⟩)], .nilFunc]) hS76 (by kernel_rfl) (by kernel_rfl) (by kernel_rfl) (by kernel_rfl) (by kernel_rfl) (by kernel_rfl) (by kernel_rfl) (Nat.le_of_ble_eq_true (by kernel_rfl)) (by kernel_rfl) ?_
    intro w77 hS78
    refine sx_run 1 (todo' := [.code (cd6 [1, 1, 1, 1, 1])]) (us := []) (by kernel_rfl) ?_
    have hS79 := hS78.pick3
    have hS80 := hS79.pick3
    have hS81 := hS80.pick3
    refine Runs.fill (m := [none, some (.pointer (some ⟨b1, 0, none⟩)), some (.pointer (some ⟨b5, 0, none⟩)), some (.pointer (some ⟨b9, 0, none⟩)), some (.pointer (some ⟨b15, 0, none⟩)), none, none, none, none, none, none, none, none, none, none, none, none, none, none, none, none, none, none, none, none, none]) (by kernel_rfl) ?_
    exact J39 t24 t25 true (Option.some.inj hp75) _ _ hS81
   ·skip
    have hp82 := ite_f hv32 h74
    refine sx_run 3 (todo' := [.code (cd6 [1, 1, 1, 1, 1])]) (us := []) (by kernel_rfl) ?_
    refine Runs.fill (m := [none, some (.pointer (some ⟨b1, 0, none⟩)), some (.pointer (some ⟨b5, 0, none⟩)), some (.pointer (some ⟨b9, 0, none⟩)), some (.pointer (some ⟨b15, 0, none⟩)), none, none, none, none, none, none, none, none, none, none, none, none, none, none, none, none, none, none, none, none, none]) (by kernel_rfl) ?_
    exact J39 t24 t25 false (Option.some.inj hp82) _ _ hS27
  refine sx_split 2 (todo' := [.inRegion (opsOf (cd6 [1, 1, 1, 0, 0])) [], .code (cd6 [1, 1, 1, 0, 1]), .code (cd6 [1, 1, 1, 1])]) (us := [(9, .int .i64 (band .i64 a0.Holes 1))]) (d := 10) (t := ((band .i64 a0.Holes 1) == 0)) (by kernel_rfl) (fun h83 => ?_) (fun h84 => ?_)
  ·skip
   have hp85 := ite_t hv22 h83
   refine sx_run 5 (todo' := [.inRegion (opsOf (cd6 [1, 1, 1, 0, 1, 0])) [2], .code (cd6 [1, 1, 1, 1])]) (us := [(11, .func (.func 21) #[] #[.pointer (some ⟨b9, 0, none⟩), .pointer (some ⟨b1, 0, none⟩)]), (12, .pointer (some ⟨b15, 1, none⟩))]) (by kernel_rfl) ?_
   refine r_store (c := (cd6 [1, 1, 1, 0, 1, 0])) (i := 2) (d := none) (ty := 0) (t := 27) (x := (.tmp 12)) (y := (.tmp 11)) (b := b15) (o := 1) (e := 31) (cs := [.string (⟨#[0]⟩ : ByteArray), .nilFunc, .nilFunc, .nilFunc]) (v := .func (.func 21) #[] #[.pointer (some ⟨b9, 0, none⟩), .pointer (some ⟨b1, 0, none⟩)]) (vs := [.func (.func 21) #[] #[.pointer (some ⟨b9, 0, none⟩), .pointer (some ⟨b1, 0, none⟩)]]) (cs' := [.string (⟨#[0]⟩ : ByteArray), .func (.func 21) #[] #[.pointer (some ⟨b9, 0, none⟩), .pointer (some ⟨b1, 0, none⟩)], .nilFunc, .nilFunc]) hS20 (by kernel_rfl) (by kernel_rfl) (by kernel_rfl) (by kernel_rfl) (by kernel_rfl) (by kernel_rfl) (by kernel_rfl) (Nat.le_of_ble_eq_true (by kernel_rfl)) (by kernel_rfl) ?_
   intro w86 hS87
   refine sx_run 1 (todo' := [.code (cd6 [1, 1, 1, 1])]) (us := []) (by kernel_rfl) ?_
   have hS88 := hS87.pick1
   have hS89 := hS88.pick2
   have hS90 := hS89.pick3
   refine Runs.fill (m := [none, some (.pointer (some ⟨b1, 0, none⟩)), some (.pointer (some ⟨b5, 0, none⟩)), some (.pointer (some ⟨b9, 0, none⟩)), some (.pointer (some ⟨b15, 0, none⟩)), none, none, none, none, none, none, none, none, none, none, none, none, none, none, none, none, none, none, none, none, none]) (by kernel_rfl) ?_
   exact J28 (⟨#[0]⟩ : ByteArray) true (Option.some.inj hp85) _ _ hS90
  ·skip
   have hp91 := ite_f hv22 h84
   refine sx_run 3 (todo' := [.code (cd6 [1, 1, 1, 1])]) (us := []) (by kernel_rfl) ?_
   have hS92 := hS20.pick1
   have hS93 := hS92.pick2
   have hS94 := hS93.pick3
   refine Runs.fill (m := [none, some (.pointer (some ⟨b1, 0, none⟩)), some (.pointer (some ⟨b5, 0, none⟩)), some (.pointer (some ⟨b9, 0, none⟩)), some (.pointer (some ⟨b15, 0, none⟩)), none, none, none, none, none, none, none, none, none, none, none, none, none, none, none, none, none, none, none, none, none]) (by kernel_rfl) ?_
   exact J28 (⟨#[0]⟩ : ByteArray) false (Option.some.inj hp91) _ _ hS94

noncomputable def cd20 (p : List Nat) : Code := sub (bodyOf Try.f20) p
def weirlaw15_Graph__Machine_1.f (a0 : ByteArray) (a1v : weirlaw15_Graph) : Option Int :=
  (if ((a0.size : Int) != 1) = true then some ((-1)) else (if 0 ≤ (0 : Int) ∧ (0 : Int) < (a0.size : Int) then (if (decide ((IntKind.i64.wrap (byt a0 (0 : Int))) ≥ (a1v.To.length : Int))) = true then some ((-1)) else (if 0 ≤ (0 : Int) ∧ (0 : Int) < (a0.size : Int) then some ((IntKind.i64.wrap (byt a0 (0 : Int)))) else none)) else none))
set_option maxHeartbeats 16000000 in
theorem weirlaw15_Graph__Machine_1.ok (a0 : ByteArray) (a1v : weirlaw15_Graph) (ba1 : Nat) (Aa1v_0 : Option Addr) (ca1v_0 : Nat) {w0 : World} {Z : Zm} {fs : List XObj} {w : World} (hS0 : St w0 Z (xblk ba1 25 ([.slice Aa1v_0 a1v.To.length ca1v_0, .int .u64 a1v.Ends, .bool a1v.Odd, .int .i64 a1v.Holes]) :: fs) w) (ha1v_0 : SlZ (repL (flat (encI .i64)) 1) 1 Z Aa1v_0 ca1v_0 a1v.To) {q0 : Int} (hp0 : weirlaw15_Graph__Machine_1.f a0 a1v = some q0) :
    Calls Try.prog 20 #[.string a0, .pointer (some ⟨ba1, 0, none⟩)] w (fun e w' => e = .returned (.int .i64 q0) ∧ St w0 Z (xblk ba1 25 ([.slice Aa1v_0 a1v.To.length ca1v_0, .int .u64 a1v.Ends, .bool a1v.Odd, .int .i64 a1v.Holes]) :: fs) w') := by
  refine calls_abs ?_; intro R hR
  unfold weirlaw15_Graph__Machine_1.f at hp0
  refine calls_of_runs (fn := Try.f20) (c := cd20 []) Try.func20 (by kernel_rfl) (al := [.string a0, .pointer (some ⟨ba1, 0, none⟩)]) rfl (n := 17) rfl ?_
  refine sx_run 6 (todo' := [.code (cd20 [1, 0, 0]), .code (cd20 [1, 0, 1]), .code (cd20 [1, 1])]) (us := [(3, .int .i64 0)]) (by kernel_rfl) ?_
  refine r_quiet hS0 (c := (cd20 [1, 0, 0])) (id := 1) (by kernel_rfl) (by kernel_rfl) (by kernel_rfl) (is := [0, 1, 2, 3, 4, 5, 6, 7, 8, 9, 10, 11]) (by kernel_rfl) ?_
  refine q_splitr 3 (is' := [3, 4, 5, 6, 7, 8, 9, 10, 11]) (us := [(4, .string a0), (5, .int .i64 (a0.size : Int))]) (d := 6) (t := ((a0.size : Int) != 1)) (by kernel_rfl) (fun h1 => ?_) (fun h2 => ?_)
  ·skip
   have hp3 := ite_t hp0 h1
   refine q_run 9 (is' := []) (us := [(7, .bool true), (8, undef), (9, undef), (10, undef), (11, undef), (12, undef), (13, undef), (14, undef), (15, .bool true)]) (by kernel_rfl) ?_
   refine Qs.nil ?_
   intro w4 hS5
   refine sx_run 5 (todo' := [.code (cd20 [1, 0, 1, 0, 1]), .code (cd20 [1, 1])]) (us := [(3, .int .i64 (-1))]) (by kernel_rfl) ?_
   refine runs_ret (fn := Try.f20) (v := .int .i64 (-1)) Try.func20 (by kernel_rfl) ?_
   have hr6 := (Option.some.inj hp3)
   cases hr6
   exact hR _ _ ⟨rfl, hS5⟩
  ·skip
   have hp7 := ite_f hp0 h2
   refine q_run 2 (is' := [5, 6, 7, 8, 9, 10, 11]) (us := [(7, .bool false), (8, .string a0)]) (by kernel_rfl) ?_
   obtain ⟨g8, hp9⟩ := ite_some hp7
   refine q_val (c := (cd20 [1, 0, 0])) (i := 5) (d := (some 9)) (ty := 5) (op := .index 9 (.tmp 8) (.const (.int .i64 0))) (v := .int .u8 (byt a0 (0 : Int))) (by kernel_rfl) (by kernel_rfl) (fun w hC o ho _ => x_indexStr (kk := .i64) (by kernel_rfl) (by kernel_rfl) (by kernel_rfl) g8.1 g8.2 ho) ?_
   refine q_run 2 (is' := [8, 9, 10, 11]) (us := [(10, .int .i64 (IntKind.i64.wrap (byt a0 (0 : Int)))), (11, .pointer (some ⟨ba1, 0, none⟩))]) (by kernel_rfl) ?_
   refine q_load (c := (cd20 [1, 0, 0])) (i := 8) (d := (some 12)) (ty := 22) (t := 22) (x := (.tmp 11)) (p := ⟨ba1, 0, none⟩) (v := .slice Aa1v_0 a1v.To.length ca1v_0) (by kernel_rfl) (by kernel_rfl) (by kernel_rfl) (fun w hC => (loads_at 0 (hC.blk 0 rfl) (by kernel_rfl) (by kernel_rfl))) ?_
   refine q_splitr 2 (is' := [11]) (us := [(13, .int .i64 (a1v.To.length : Int))]) (d := 14) (t := (decide ((IntKind.i64.wrap (byt a0 (0 : Int))) ≥ (a1v.To.length : Int)))) (by kernel_rfl) (fun h10 => ?_) (fun h11 => ?_)
   ·skip
    have hp12 := ite_t hp9 h10
    refine q_run 1 (is' := []) (us := [(15, .bool true)]) (by kernel_rfl) ?_
    refine Qs.nil ?_
    intro w13 hS14
    refine sx_run 5 (todo' := [.code (cd20 [1, 0, 1, 0, 1]), .code (cd20 [1, 1])]) (us := [(3, .int .i64 (-1))]) (by kernel_rfl) ?_
    refine runs_ret (fn := Try.f20) (v := .int .i64 (-1)) Try.func20 (by kernel_rfl) ?_
    have hr15 := (Option.some.inj hp12)
    cases hr15
    exact hR _ _ ⟨rfl, hS14⟩
   ·skip
    have hp16 := ite_f hp9 h11
    refine q_run 1 (is' := []) (us := [(15, .bool false)]) (by kernel_rfl) ?_
    refine Qs.nil ?_
    intro w17 hS18
    refine sx_run 5 (todo' := [.inRegion (opsOf (cd20 [1, 1, 0])) [1, 2, 3], .code (cd20 [1, 1, 1])]) (us := [(16, .string a0)]) (by kernel_rfl) ?_
    obtain ⟨g19, hp20⟩ := ite_some hp16
    refine r_val (c := (cd20 [1, 1, 0])) (i := 1) (d := (some 17)) (ty := 5) (op := .index 9 (.tmp 16) (.const (.int .i64 0))) (v := .int .u8 (byt a0 (0 : Int))) (by kernel_rfl) (by kernel_rfl) (fun o ho _ => x_indexStr (kk := .i64) (by kernel_rfl) (by kernel_rfl) (by kernel_rfl) g19.1 g19.2 ho) ?_
    refine sx_run 3 (todo' := [.code (cd20 [1, 1, 1])]) (us := [(18, .int .i64 (IntKind.i64.wrap (byt a0 (0 : Int)))), (3, .int .i64 (IntKind.i64.wrap (byt a0 (0 : Int))))]) (by kernel_rfl) ?_
    refine runs_ret (fn := Try.f20) (v := .int .i64 (IntKind.i64.wrap (byt a0 (0 : Int)))) Try.func20 (by kernel_rfl) ?_
    have hr21 := (Option.some.inj hp20)
    cases hr21
    exact hR _ _ ⟨rfl, hS18⟩

noncomputable def cd23 (p : List Nat) : Code := sub (bodyOf Try.f23) p
def weirlaw15_Graph__Machine_4.f (a0 : ByteArray) (a1vc0v : weirlaw15_Graph) : Option (api_Final × Bool) :=
  (weirlaw15_Graph__Machine_1.f a0 (⟨a1vc0v.To, a1vc0v.Ends, a1vc0v.Odd, a1vc0v.Holes⟩ : weirlaw15_Graph) >>= (fun t5 => (if (decide (t5 < 0)) = true then some (((⟨0, (Vector.replicate 48 0)⟩ : api_Final), false)) else (if (decide (t5 > 63)) = true then some (((⟨0, (Vector.replicate 48 0)⟩ : api_Final), false)) else (if 0 ≤ (IntKind.u64.wrap t5) then (if ((band .u64 (shrI .u64 a1vc0v.Ends (IntKind.u64.wrap t5)) 1) == 0) = true then some (((⟨0, (Vector.replicate 48 0)⟩ : api_Final), false)) else some (((⟨1, (vset (Vector.replicate 48 0) 0 t5)⟩ : api_Final), true))) else none)))))
set_option maxHeartbeats 16000000 in
theorem weirlaw15_Graph__Machine_4.ok (a0 : ByteArray) (a1vc0v : weirlaw15_Graph) (ba1 : Nat) (ba1vc0 : Nat) (Aa1vc0v_0 : Option Addr) (ca1vc0v_0 : Nat) {w0 : World} {Z : Zm} {fs : List XObj} {w : World} (hS0 : St w0 Z (xblk ba1 53 ([.func (.func 20) #[] #[.pointer (some ⟨ba1vc0, 0, none⟩)]]) :: xblk ba1vc0 25 ([.slice Aa1vc0v_0 a1vc0v.To.length ca1vc0v_0, .int .u64 a1vc0v.Ends, .bool a1vc0v.Odd, .int .i64 a1vc0v.Holes]) :: fs) w) (ha1vc0v_0 : SlZ (repL (flat (encI .i64)) 1) 1 Z Aa1vc0v_0 ca1vc0v_0 a1vc0v.To) {q0 : api_Final} {q1 : Bool} (hp0 : weirlaw15_Graph__Machine_4.f a0 a1vc0v = some (q0, q1)) :
    Calls Try.prog 23 #[.string a0, .pointer (some ⟨ba1, 0, none⟩), .pointer (some ⟨ba1vc0, 0, none⟩)] w (fun e w' => e = .returned (.tuple #[.agg (enc_api_Final q0).toArray, .bool q1]) ∧ St w0 Z (xblk ba1 53 ([.func (.func 20) #[] #[.pointer (some ⟨ba1vc0, 0, none⟩)]]) :: xblk ba1vc0 25 ([.slice Aa1vc0v_0 a1vc0v.To.length ca1vc0v_0, .int .u64 a1vc0v.Ends, .bool a1vc0v.Odd, .int .i64 a1vc0v.Holes]) :: fs) w') := by
  refine calls_abs ?_; intro R hR
  unfold weirlaw15_Graph__Machine_4.f at hp0
  refine calls_of_runs (fn := Try.f23) (c := cd23 []) Try.func23 (by kernel_rfl) (al := [.string a0, .pointer (some ⟨ba1, 0, none⟩), .pointer (some ⟨ba1vc0, 0, none⟩)]) rfl (n := 26) rfl ?_
  refine sx_run 2 (todo' := [.inRegion (opsOf (cd23 [0])) [0, 1], .code (cd23 [1])]) (us := []) (by kernel_rfl) ?_
  refine r_alloc (c := (cd23 [0])) (i := 0) (d := (some 4)) (ty := 0) (z := .agg (enc_api_Final (⟨0, (Vector.replicate 48 0)⟩ : api_Final)).toArray) (t := 46) (cs := enc_api_Final (⟨0, (Vector.replicate 48 0)⟩ : api_Final)) hS0 (by kernel_rfl) (by kernel_rfl) (by kernel_rfl) (by kernel_rfl) ?_
  intro b1 w2 hS3
  refine sx_run 4 (todo' := [.inRegion (opsOf (cd23 [1, 0])) [0, 1, 2, 3], .code (cd23 [1, 1])]) (us := [(5, .bool false)]) (by kernel_rfl) ?_
  refine r_load (c := (cd23 [1, 0])) (i := 0) (d := (some 7)) (ty := 53) (t := 53) (x := (.tmp 1)) (p := ⟨ba1, 0, none⟩) (v := .func (.func 20) #[] #[.pointer (some ⟨ba1vc0, 0, none⟩)]) (by kernel_rfl) (by kernel_rfl) (by kernel_rfl) (loads_at 0 (hS3.blk 1 rfl) (by kernel_rfl) (by kernel_rfl)) ?_
  refine sx_run 1 (todo' := [.inRegion (opsOf (cd23 [1, 0])) [2, 3], .code (cd23 [1, 1])]) (us := [(8, .string a0)]) (by kernel_rfl) ?_
  obtain ⟨t5, hr6, hp7⟩ := bind_some' hp0
  have hS9 := hS3.pick2
  refine r_call1 (c := (cd23 [1, 0])) (i := 2) (d := (some 9)) (g := 20) (args := #[.string a0, .pointer (some ⟨ba1vc0, 0, none⟩)]) (by kernel_rfl) (by kernel_rfl) (by kernel_rfl) (by kernel_rfl) (weirlaw15_Graph__Machine_1.ok a0 (⟨a1vc0v.To, a1vc0v.Ends, a1vc0v.Odd, a1vc0v.Holes⟩ : weirlaw15_Graph) ba1vc0 Aa1vc0v_0 ca1vc0v_0 hS9 ha1vc0v_0 hr6) ?_
  rintro _ w10 ⟨rfl, hS11⟩
  refine ⟨.int .i64 t5, rfl, ?_⟩
  refine sx_split 7 (todo' := [.inRegion (opsOf (cd23 [1, 1, 0, 0])) [2, 3, 4, 5, 6, 7, 8, 9, 10, 11, 12, 13, 14], .code (cd23 [1, 1, 0, 1]), .code (cd23 [1, 1, 1])]) (us := [(6, .int .i64 t5), (10, .int .i64 t5)]) (d := 11) (t := (decide (t5 < 0))) (by kernel_rfl) (fun h12 => ?_) (fun h13 => ?_)
  ·skip
   have hp14 := ite_t hp7 h12
   refine sx_run 18 (todo' := [.inRegion (opsOf (cd23 [1, 1, 0, 1, 0, 0])) [1, 2], .code (cd23 [1, 1, 0, 1, 0, 1]), .code (cd23 [1, 1, 1])]) (us := [(12, .bool true), (13, undef), (14, undef), (15, .bool true), (16, .bool true), (17, undef), (18, undef), (19, undef), (20, undef), (21, undef), (22, undef), (23, undef), (24, .bool true), (25, .agg (enc_api_Final (⟨0, (Vector.replicate 48 0)⟩ : api_Final)).toArray)]) (by kernel_rfl) ?_
   have hS15 := hS11.pick1
   refine r_store (c := (cd23 [1, 1, 0, 1, 0, 0])) (i := 1) (d := none) (ty := 0) (t := 46) (x := (.tmp 4)) (y := (.tmp 25)) (b := b1) (o := 0) (e := 46) (cs := enc_api_Final (⟨0, (Vector.replicate 48 0)⟩ : api_Final)) (v := .agg (enc_api_Final (⟨0, (Vector.replicate 48 0)⟩ : api_Final)).toArray) (vs := enc_api_Final (⟨0, (Vector.replicate 48 0)⟩ : api_Final)) (cs' := enc_api_Final (⟨0, (Vector.replicate 48 0)⟩ : api_Final)) hS15 (by kernel_rfl) (by kernel_rfl) (by kernel_rfl) (by kernel_rfl) (by kernel_rfl) (lenK (len_api_Final _) (by kernel_rfl)) (one_api_Final _) (by simp only [len_api_Final, List.length_cons, List.length_nil, List.length_append]; omega) (over_all ((len_api_Final _).trans (len_api_Final _).symm)) ?_
   intro w16 hS17
   refine sx_run 2 (todo' := [.code (cd23 [1, 1, 0, 1, 0, 1]), .code (cd23 [1, 1, 1])]) (us := [(5, .bool false)]) (by kernel_rfl) ?_
   have hS18 := hS17.drop
   have hS19 := hS18.pick1
   refine runs_ret (fn := Try.f23) (v := .tuple #[.agg (enc_api_Final (⟨0, (Vector.replicate 48 0)⟩ : api_Final)).toArray, .bool false]) Try.func23 (resl_run (fn := Try.f23) (by kernel_rfl) (.cell (t := 4) (ty := 46) (by kernel_rfl) (loads_agg (hS17.blk 0 rfl) (by kernel_rfl) (lenK (len_api_Final _) (by kernel_rfl))) (.tmp (t := 5) (by kernel_rfl) .nil))) ?_
   have hr20 := (Option.some.inj hp14)
   cases hr20
   exact hR _ _ ⟨rfl, hS19⟩
  ·skip
   have hp21 := ite_f hp7 h13
   refine sx_split 3 (todo' := [.inRegion (opsOf (cd23 [1, 1, 0, 0])) [5, 6, 7, 8, 9, 10, 11, 12, 13, 14], .code (cd23 [1, 1, 0, 1]), .code (cd23 [1, 1, 1])]) (us := [(12, .bool false), (13, .int .i64 t5)]) (d := 14) (t := (decide (t5 > 63))) (by kernel_rfl) (fun h22 => ?_) (fun h23 => ?_)
   ·skip
    have hp24 := ite_t hp21 h22
    refine sx_run 15 (todo' := [.inRegion (opsOf (cd23 [1, 1, 0, 1, 0, 0])) [1, 2], .code (cd23 [1, 1, 0, 1, 0, 1]), .code (cd23 [1, 1, 1])]) (us := [(15, .bool true), (16, .bool true), (17, undef), (18, undef), (19, undef), (20, undef), (21, undef), (22, undef), (23, undef), (24, .bool true), (25, .agg (enc_api_Final (⟨0, (Vector.replicate 48 0)⟩ : api_Final)).toArray)]) (by kernel_rfl) ?_
    have hS25 := hS11.pick1
    refine r_store (c := (cd23 [1, 1, 0, 1, 0, 0])) (i := 1) (d := none) (ty := 0) (t := 46) (x := (.tmp 4)) (y := (.tmp 25)) (b := b1) (o := 0) (e := 46) (cs := enc_api_Final (⟨0, (Vector.replicate 48 0)⟩ : api_Final)) (v := .agg (enc_api_Final (⟨0, (Vector.replicate 48 0)⟩ : api_Final)).toArray) (vs := enc_api_Final (⟨0, (Vector.replicate 48 0)⟩ : api_Final)) (cs' := enc_api_Final (⟨0, (Vector.replicate 48 0)⟩ : api_Final)) hS25 (by kernel_rfl) (by kernel_rfl) (by kernel_rfl) (by kernel_rfl) (by kernel_rfl) (lenK (len_api_Final _) (by kernel_rfl)) (one_api_Final _) (by simp only [len_api_Final, List.length_cons, List.length_nil, List.length_append]; omega) (over_all ((len_api_Final _).trans (len_api_Final _).symm)) ?_
    intro w26 hS27
    refine sx_run 2 (todo' := [.code (cd23 [1, 1, 0, 1, 0, 1]), .code (cd23 [1, 1, 1])]) (us := [(5, .bool false)]) (by kernel_rfl) ?_
    have hS28 := hS27.drop
    have hS29 := hS28.pick1
    refine runs_ret (fn := Try.f23) (v := .tuple #[.agg (enc_api_Final (⟨0, (Vector.replicate 48 0)⟩ : api_Final)).toArray, .bool false]) Try.func23 (resl_run (fn := Try.f23) (by kernel_rfl) (.cell (t := 4) (ty := 46) (by kernel_rfl) (loads_agg (hS27.blk 0 rfl) (by kernel_rfl) (lenK (len_api_Final _) (by kernel_rfl))) (.tmp (t := 5) (by kernel_rfl) .nil))) ?_
    have hr30 := (Option.some.inj hp24)
    cases hr30
    exact hR _ _ ⟨rfl, hS29⟩
   ·skip
    have hp31 := ite_f hp21 h23
    refine sx_run 3 (todo' := [.inRegion (opsOf (cd23 [1, 1, 0, 0])) [8, 9, 10, 11, 12, 13, 14], .code (cd23 [1, 1, 0, 1]), .code (cd23 [1, 1, 1])]) (us := [(15, .bool false), (16, .bool false), (17, .pointer (some ⟨ba1vc0, 1, none⟩))]) (by kernel_rfl) ?_
    refine r_load (c := (cd23 [1, 1, 0, 0])) (i := 8) (d := (some 18)) (ty := 23) (t := 23) (x := (.tmp 17)) (p := ⟨ba1vc0, 1, none⟩) (v := .int .u64 a1vc0v.Ends) (by kernel_rfl) (by kernel_rfl) (by kernel_rfl) (loads_at 1 (hS11.blk 0 rfl) (by kernel_rfl) (by kernel_rfl)) ?_
    refine sx_run 2 (todo' := [.inRegion (opsOf (cd23 [1, 1, 0, 0])) [11, 12, 13, 14], .code (cd23 [1, 1, 0, 1]), .code (cd23 [1, 1, 1])]) (us := [(19, .int .i64 t5), (20, .int .u64 (IntKind.u64.wrap t5))]) (by kernel_rfl) ?_
    obtain ⟨g32, hp33⟩ := ite_some hp31
    refine r_val (c := (cd23 [1, 1, 0, 0])) (i := 11) (d := (some 21)) (ty := 23) (op := .binOp .shr 23 (.tmp 18) (.tmp 20) 56) (v := .int .u64 (shrI .u64 a1vc0v.Ends (IntKind.u64.wrap t5))) (by kernel_rfl) (by kernel_rfl) (fun o ho _ => (x_shift (kk := .u64) (by kernel_rfl) (by kernel_rfl) g32).2 ho) ?_
    refine sx_split 2 (todo' := [.inRegion (opsOf (cd23 [1, 1, 0, 0])) [14], .code (cd23 [1, 1, 0, 1]), .code (cd23 [1, 1, 1])]) (us := [(22, .int .u64 (band .u64 (shrI .u64 a1vc0v.Ends (IntKind.u64.wrap t5)) 1))]) (d := 23) (t := ((band .u64 (shrI .u64 a1vc0v.Ends (IntKind.u64.wrap t5)) 1) == 0)) (by kernel_rfl) (fun h34 => ?_) (fun h35 => ?_)
    ·skip
     have hp36 := ite_t hp33 h34
     refine sx_run 6 (todo' := [.inRegion (opsOf (cd23 [1, 1, 0, 1, 0, 0])) [1, 2], .code (cd23 [1, 1, 0, 1, 0, 1]), .code (cd23 [1, 1, 1])]) (us := [(24, .bool true), (25, .agg (enc_api_Final (⟨0, (Vector.replicate 48 0)⟩ : api_Final)).toArray)]) (by kernel_rfl) ?_
     have hS37 := hS11.pick1
     refine r_store (c := (cd23 [1, 1, 0, 1, 0, 0])) (i := 1) (d := none) (ty := 0) (t := 46) (x := (.tmp 4)) (y := (.tmp 25)) (b := b1) (o := 0) (e := 46) (cs := enc_api_Final (⟨0, (Vector.replicate 48 0)⟩ : api_Final)) (v := .agg (enc_api_Final (⟨0, (Vector.replicate 48 0)⟩ : api_Final)).toArray) (vs := enc_api_Final (⟨0, (Vector.replicate 48 0)⟩ : api_Final)) (cs' := enc_api_Final (⟨0, (Vector.replicate 48 0)⟩ : api_Final)) hS37 (by kernel_rfl) (by kernel_rfl) (by kernel_rfl) (by kernel_rfl) (by kernel_rfl) (lenK (len_api_Final _) (by kernel_rfl)) (one_api_Final _) (by simp only [len_api_Final, List.length_cons, List.length_nil, List.length_append]; omega) (over_all ((len_api_Final _).trans (len_api_Final _).symm)) ?_
     intro w38 hS39
     refine sx_run 2 (todo' := [.code (cd23 [1, 1, 0, 1, 0, 1]), .code (cd23 [1, 1, 1])]) (us := [(5, .bool false)]) (by kernel_rfl) ?_
     have hS40 := hS39.drop
     have hS41 := hS40.pick1
     refine runs_ret (fn := Try.f23) (v := .tuple #[.agg (enc_api_Final (⟨0, (Vector.replicate 48 0)⟩ : api_Final)).toArray, .bool false]) Try.func23 (resl_run (fn := Try.f23) (by kernel_rfl) (.cell (t := 4) (ty := 46) (by kernel_rfl) (loads_agg (hS39.blk 0 rfl) (by kernel_rfl) (lenK (len_api_Final _) (by kernel_rfl))) (.tmp (t := 5) (by kernel_rfl) .nil))) ?_
     have hr42 := (Option.some.inj hp36)
     cases hr42
     exact hR _ _ ⟨rfl, hS41⟩
    ·skip
     have hp43 := ite_f hp33 h35
     refine sx_run 9 (todo' := [.inRegion (opsOf (cd23 [1, 1, 1, 0])) [3, 4], .code (cd23 [1, 1, 1, 1])]) (us := [(24, .bool false), (26, .int .i64 t5), (27, .agg ((encV (encI .i64)) (vset (Vector.replicate 48 0) 0 t5)).toArray), (28, .agg (enc_api_Final (⟨1, (vset (Vector.replicate 48 0) 0 t5)⟩ : api_Final)).toArray)]) (by kernel_rfl) ?_
     have hS44 := hS11.pick1
     refine r_store (c := (cd23 [1, 1, 1, 0])) (i := 3) (d := none) (ty := 0) (t := 46) (x := (.tmp 4)) (y := (.tmp 28)) (b := b1) (o := 0) (e := 46) (cs := enc_api_Final (⟨0, (Vector.replicate 48 0)⟩ : api_Final)) (v := .agg (enc_api_Final (⟨1, (vset (Vector.replicate 48 0) 0 t5)⟩ : api_Final)).toArray) (vs := enc_api_Final (⟨1, (vset (Vector.replicate 48 0) 0 t5)⟩ : api_Final)) (cs' := enc_api_Final (⟨1, (vset (Vector.replicate 48 0) 0 t5)⟩ : api_Final)) hS44 (by kernel_rfl) (by kernel_rfl) (by kernel_rfl) (by kernel_rfl) (by kernel_rfl) (lenK (len_api_Final _) (by kernel_rfl)) (one_api_Final _) (by simp only [len_api_Final, List.length_cons, List.length_nil, List.length_append]; omega) (over_all ((len_api_Final _).trans (len_api_Final _).symm)) ?_
     intro w45 hS46
     refine sx_run 2 (todo' := [.code (cd23 [1, 1, 1, 1])]) (us := [(5, .bool true)]) (by kernel_rfl) ?_
     have hS47 := hS46.drop
     have hS48 := hS47.pick1
     refine runs_ret (fn := Try.f23) (v := .tuple #[.agg (enc_api_Final (⟨1, (vset (Vector.replicate 48 0) 0 t5)⟩ : api_Final)).toArray, .bool true]) Try.func23 (resl_run (fn := Try.f23) (by kernel_rfl) (.cell (t := 4) (ty := 46) (by kernel_rfl) (loads_agg (hS46.blk 0 rfl) (by kernel_rfl) (lenK (len_api_Final _) (by kernel_rfl))) (.tmp (t := 5) (by kernel_rfl) .nil))) ?_
     have hr49 := (Option.some.inj hp43)
     cases hr49
     exact hR _ _ ⟨rfl, hS48⟩

noncomputable def cd21 (p : List Nat) : Code := sub (bodyOf Try.f21) p
def weirlaw15_Graph__Machine_2.l0 (a1vc0v : weirlaw15_Graph) (t1 : Int) (t43 : List api_Pick) (t47 : Int) : Option (List api_Pick) :=
  (if 0 ≤ t1 ∧ t1 < (a1vc0v.To.length : Int) then (if (decide (t47 < ((gt a1vc0v.To t1).length : Int))) = true then (if (t43.length + ([(⟨t47, 1, 0⟩ : api_Pick)] : List api_Pick).length) * 24 ≤ 140737488355328 then (weirlaw15_Graph__Machine_2.l0 a1vc0v t1 (t43 ++ ([(⟨t47, 1, 0⟩ : api_Pick)] : List api_Pick)) (IntKind.i64.wrap (t47 + 1))) else none) else some (t43)) else none)
 partial_fixpoint
def weirlaw15_Graph__Machine_2.f (a0 : ByteArray) (a1vc0v : weirlaw15_Graph) : Option (List api_Pick) :=
  (weirlaw15_Graph__Machine_1.f a0 (⟨a1vc0v.To, a1vc0v.Ends, a1vc0v.Odd, a1vc0v.Holes⟩ : weirlaw15_Graph) >>= (fun t1 => (if (decide (t1 < 0)) = true then some ([]) else (((if a1vc0v.Odd = true then (if (([] : List api_Pick).length + ([(⟨99, 1, 0⟩ : api_Pick)] : List api_Pick).length) * 24 ≤ 140737488355328 then some ((([] : List api_Pick) ++ ([(⟨99, 1, 0⟩ : api_Pick)] : List api_Pick))) else none) else some ([])) : Option (List api_Pick)) >>= (fun t21 => (weirlaw15_Graph__Machine_2.l0 a1vc0v t1 t21 0 >>= (fun t33 => some (t33))))))))
set_option maxHeartbeats 16000000 in
theorem weirlaw15_Graph__Machine_2.ok (a0 : ByteArray) (a1vc0v : weirlaw15_Graph) (ba1 : Nat) (ba1vc0 : Nat) (Aa1vc0v_0 : Option Addr) (ca1vc0v_0 : Nat) {w0 : World} {Z : Zm} {fs : List XObj} {w : World} (hS0 : St w0 Z (xblk ba1 53 ([.func (.func 20) #[] #[.pointer (some ⟨ba1vc0, 0, none⟩)]]) :: xblk ba1vc0 25 ([.slice Aa1vc0v_0 a1vc0v.To.length ca1vc0v_0, .int .u64 a1vc0v.Ends, .bool a1vc0v.Odd, .int .i64 a1vc0v.Holes]) :: fs) w) (ha1vc0v_0 : SlZ (repL (flat (encI .i64)) 1) 1 Z Aa1vc0v_0 ca1vc0v_0 a1vc0v.To) {q0 : List api_Pick} (hp0 : weirlaw15_Graph__Machine_2.f a0 a1vc0v = some q0) :
    Calls Try.prog 21 #[.string a0, .pointer (some ⟨ba1, 0, none⟩), .pointer (some ⟨ba1vc0, 0, none⟩)] w (fun e w' => ∃ (QA0 : Option Addr) (Qc0 : Nat), e = .returned (.slice QA0 q0.length Qc0) ∧ St w0 Z (xrow QA0 Qc0 39 3 (q0.flatMap enc_api_Pick) :: xblk ba1 53 ([.func (.func 20) #[] #[.pointer (some ⟨ba1vc0, 0, none⟩)]]) :: xblk ba1vc0 25 ([.slice Aa1vc0v_0 a1vc0v.To.length ca1vc0v_0, .int .u64 a1vc0v.Ends, .bool a1vc0v.Odd, .int .i64 a1vc0v.Holes]) :: fs) w') := by
  refine calls_abs ?_; intro R hR
  unfold weirlaw15_Graph__Machine_2.f at hp0
  refine calls_of_runs (fn := Try.f21) (c := cd21 []) Try.func21 (by kernel_rfl) (al := [.string a0, .pointer (some ⟨ba1, 0, none⟩), .pointer (some ⟨ba1vc0, 0, none⟩)]) rfl (n := 32) rfl ?_
  refine sx_run 6 (todo' := [.inRegion (opsOf (cd21 [1, 0])) [0, 1, 2, 3], .code (cd21 [1, 1])]) (us := [(4, .slice none 0 0)]) (by kernel_rfl) ?_
  refine r_load (c := (cd21 [1, 0])) (i := 0) (d := (some 8)) (ty := 53) (t := 53) (x := (.tmp 1)) (p := ⟨ba1, 0, none⟩) (v := .func (.func 20) #[] #[.pointer (some ⟨ba1vc0, 0, none⟩)]) (by kernel_rfl) (by kernel_rfl) (by kernel_rfl) (loads_at 0 (hS0.blk 0 rfl) (by kernel_rfl) (by kernel_rfl)) ?_
  refine sx_run 1 (todo' := [.inRegion (opsOf (cd21 [1, 0])) [2, 3], .code (cd21 [1, 1])]) (us := [(9, .string a0)]) (by kernel_rfl) ?_
  obtain ⟨t1, hr2, hp3⟩ := bind_some' hp0
  have hS5 := hS0.pick1
  refine r_call1 (c := (cd21 [1, 0])) (i := 2) (d := (some 10)) (g := 20) (args := #[.string a0, .pointer (some ⟨ba1vc0, 0, none⟩)]) (by kernel_rfl) (by kernel_rfl) (by kernel_rfl) (by kernel_rfl) (weirlaw15_Graph__Machine_1.ok a0 (⟨a1vc0v.To, a1vc0v.Ends, a1vc0v.Odd, a1vc0v.Holes⟩ : weirlaw15_Graph) ba1vc0 Aa1vc0v_0 ca1vc0v_0 hS5 ha1vc0v_0 hr2) ?_
  rintro _ w6 ⟨rfl, hS7⟩
  refine ⟨.int .i64 t1, rfl, ?_⟩
  refine sx_split 7 (todo' := [.inRegion (opsOf (cd21 [1, 1, 0, 0])) [], .code (cd21 [1, 1, 0, 1]), .code (cd21 [1, 1, 1])]) (us := [(5, .int .i64 t1), (11, .int .i64 t1)]) (d := 12) (t := (decide (t1 < 0))) (by kernel_rfl) (fun h8 => ?_) (fun h9 => ?_)
  ·skip
   have hp10 := ite_t hp3 h8
   refine sx_run 6 (todo' := [.code (cd21 [1, 1, 0, 1, 0, 1]), .code (cd21 [1, 1, 1])]) (us := [(4, .slice none 0 0)]) (by kernel_rfl) ?_
   have hS12 := hS7.nilrow none 39 3
   have hS13 := hS12.pick1
   have hS14 := hS13.pick2
   have hS15 := hS14.pick2
   refine runs_ret (fn := Try.f21) (v := .slice none 0 0) Try.func21 (by kernel_rfl) ?_
   have hr16 := (Option.some.inj hp10)
   cases hr16
   exact hR _ _ ⟨none, 0, rfl, hS15⟩
  ·skip
   have hp17 := ite_f hp3 h9
   refine sx_run 11 (todo' := [.inRegion (opsOf (cd21 [1, 1, 1, 1, 0, 0])) [1], .code (cd21 [1, 1, 1, 1, 0, 1]), .code (cd21 [1, 1, 1, 1, 1])]) (us := [(6, .slice none 0 0), (13, .pointer (some ⟨ba1vc0, 2, none⟩))]) (by kernel_rfl) ?_
   refine r_load (c := (cd21 [1, 1, 1, 1, 0, 0])) (i := 1) (d := (some 14)) (ty := 4) (t := 4) (x := (.tmp 13)) (p := ⟨ba1vc0, 2, none⟩) (v := .bool a1vc0v.Odd) (by kernel_rfl) (by kernel_rfl) (by kernel_rfl) (loads_at 2 (hS7.blk 0 rfl) (by kernel_rfl) (by kernel_rfl)) ?_
   obtain ⟨v18, hv19, hp20⟩ := bind_some' hp17
   have J27 : ∀ (t21 : List api_Pick) (he29 : t21 = v18) (l28 : List Value) (A22 : Option Addr) (c23 : Nat) (w25 : World) (hS26 : St w0 Z (xblk ba1vc0 25 ([.slice Aa1vc0v_0 a1vc0v.To.length ca1vc0v_0, .int .u64 a1vc0v.Ends, .bool a1vc0v.Odd, .int .i64 a1vc0v.Holes]) :: xrow A22 c23 39 3 (t21.flatMap enc_api_Pick) :: xblk ba1 53 ([.func (.func 20) #[] #[.pointer (some ⟨ba1vc0, 0, none⟩)]]) :: fs) w25), Runs Try.prog 21 [.code (cd21 [1, 1, 1, 1, 1])] (fill [none, none, some (.pointer (some ⟨ba1vc0, 0, none⟩)), none, none, some (.int .i64 t1), some (.slice A22 t21.length c23), none, none, none, none, none, none, none, none, none, none, none, none, none, none, none, none, none, none, none, none, none, none, none, none, none, none, none, none] l28) w25 R := by
    intro t21 he29 l28 A22 c23 w25 hS26
    subst he29
    try dsimp only at hp20
    refine sx_run 7 (todo' := [.code (cd21 [1, 1, 1, 1, 1, 0, 1, 0, 0]), .inLoop (cd21 [1, 1, 1, 1, 1, 0, 1, 0, 0]), .inBlock 0, .code (cd21 [1, 1, 1, 1, 1, 1])]) (us := [(7, .int .i64 0)]) (by kernel_rfl) ?_
    obtain ⟨v30, hv31, hp32⟩ := bind_some' hp20
    have J39 : ∀ (t33 : List api_Pick) (he41 : t33 = v30) (l40 : List Value) (A34 : Option Addr) (c35 : Nat) (w37 : World) (hS38 : St w0 Z (xrow A34 c35 39 3 (t33.flatMap enc_api_Pick) :: xblk ba1 53 ([.func (.func 20) #[] #[.pointer (some ⟨ba1vc0, 0, none⟩)]]) :: xblk ba1vc0 25 ([.slice Aa1vc0v_0 a1vc0v.To.length ca1vc0v_0, .int .u64 a1vc0v.Ends, .bool a1vc0v.Odd, .int .i64 a1vc0v.Holes]) :: fs) w37), Runs Try.prog 21 [.code (cd21 [1, 1, 1, 1, 1, 1])] (fill [none, none, none, none, none, none, some (.slice A34 t33.length c35), none, none, none, none, none, none, none, none, none, none, none, none, none, none, none, none, none, none, none, none, none, none, none, none, none, none, none, none] l40) w37 R := by
     intro t33 he41 l40 A34 c35 w37 hS38
     subst he41
     try dsimp only at hp32
     refine sx_run 5 (todo' := [.code (cd21 [1, 1, 1, 1, 1, 1, 1])]) (us := [(34, .slice A34 t33.length c35), (4, .slice A34 t33.length c35)]) (by kernel_rfl) ?_
     refine runs_ret (fn := Try.f21) (v := .slice A34 t33.length c35) Try.func21 (by kernel_rfl) ?_
     have hr42 := (Option.some.inj hp32)
     cases hr42
     exact hR _ _ ⟨A34, c35, rfl, hS38⟩
    have L56 : ∀ (t43 : List api_Pick) (t47 : Int) (e51 : (List api_Pick)), weirlaw15_Graph__Machine_2.l0 a1vc0v t1 t43 t47 = some e51 → e51 = v30 → ∀ (l50 : List Value) (A44 : Option Addr) (c45 : Nat) (w48 : World) (hS49 : St w0 Z (xblk ba1vc0 25 ([.slice Aa1vc0v_0 a1vc0v.To.length ca1vc0v_0, .int .u64 a1vc0v.Ends, .bool a1vc0v.Odd, .int .i64 a1vc0v.Holes]) :: xrow A44 c45 39 3 (t43.flatMap enc_api_Pick) :: xblk ba1 53 ([.func (.func 20) #[] #[.pointer (some ⟨ba1vc0, 0, none⟩)]]) :: fs) w48), Runs Try.prog 21 [.code (cd21 [1, 1, 1, 1, 1, 0, 1, 0, 0]), .inLoop (cd21 [1, 1, 1, 1, 1, 0, 1, 0, 0]), .inBlock 0, .code (cd21 [1, 1, 1, 1, 1, 1])] (fill [none, none, some (.pointer (some ⟨ba1vc0, 0, none⟩)), none, none, some (.int .i64 t1), some (.slice A44 t43.length c45), some (.int .i64 t47), none, none, none, none, none, none, none, none, none, none, none, none, none, none, none, none, none, none, none, none, none, none, none, none, none, none, none] l50) w48 R := by
     refine weirlaw15_Graph__Machine_2.l0.partial_correctness a1vc0v t1 (fun t43 t47 e51 => e51 = v30 → ∀ (l50 : List Value) (A44 : Option Addr) (c45 : Nat) (w48 : World) (hS49 : St w0 Z (xblk ba1vc0 25 ([.slice Aa1vc0v_0 a1vc0v.To.length ca1vc0v_0, .int .u64 a1vc0v.Ends, .bool a1vc0v.Odd, .int .i64 a1vc0v.Holes]) :: xrow A44 c45 39 3 (t43.flatMap enc_api_Pick) :: xblk ba1 53 ([.func (.func 20) #[] #[.pointer (some ⟨ba1vc0, 0, none⟩)]]) :: fs) w48), Runs Try.prog 21 [.code (cd21 [1, 1, 1, 1, 1, 0, 1, 0, 0]), .inLoop (cd21 [1, 1, 1, 1, 1, 0, 1, 0, 0]), .inBlock 0, .code (cd21 [1, 1, 1, 1, 1, 1])] (fill [none, none, some (.pointer (some ⟨ba1vc0, 0, none⟩)), none, none, some (.int .i64 t1), some (.slice A44 t43.length c45), some (.int .i64 t47), none, none, none, none, none, none, none, none, none, none, none, none, none, none, none, none, none, none, none, none, none, none, none, none, none, none, none] l50) w48 R) ?_
     intro rec55 ih54 t43 t47 e51 hb53 he52 l50 A44 c45 w48 hS49
     refine sx_run 5 (todo' := [.inRegion (opsOf (cd21 [1, 1, 1, 1, 1, 0, 1, 0, 0, 0, 0])) [2, 3, 4, 5, 6, 7], .code (cd21 [1, 1, 1, 1, 1, 0, 1, 0, 0, 0, 1]), .code (cd21 [1, 1, 1, 1, 1, 0, 1, 0, 0, 1]), .inLoop (cd21 [1, 1, 1, 1, 1, 0, 1, 0, 0]), .inBlock 0, .code (cd21 [1, 1, 1, 1, 1, 1])]) (us := [(19, .int .i64 t47), (20, .pointer (some ⟨ba1vc0, 0, none⟩))]) (by kernel_rfl) ?_
     refine r_load (c := (cd21 [1, 1, 1, 1, 1, 0, 1, 0, 0, 0, 0])) (i := 2) (d := (some 21)) (ty := 22) (t := 22) (x := (.tmp 20)) (p := ⟨ba1vc0, 0, none⟩) (v := .slice Aa1vc0v_0 a1vc0v.To.length ca1vc0v_0) (by kernel_rfl) (by kernel_rfl) (by kernel_rfl) (loads_at 0 (hS49.blk 0 rfl) (by kernel_rfl) (by kernel_rfl)) ?_
     refine sx_run 1 (todo' := [.inRegion (opsOf (cd21 [1, 1, 1, 1, 1, 0, 1, 0, 0, 0, 0])) [4, 5, 6, 7], .code (cd21 [1, 1, 1, 1, 1, 0, 1, 0, 0, 0, 1]), .code (cd21 [1, 1, 1, 1, 1, 0, 1, 0, 0, 1]), .inLoop (cd21 [1, 1, 1, 1, 1, 0, 1, 0, 0]), .inBlock 0, .code (cd21 [1, 1, 1, 1, 1, 1])]) (us := [(22, .int .i64 t1)]) (by kernel_rfl) ?_
     obtain ⟨g57, hp58⟩ := ite_some hb53
     obtain ⟨b59, p60, cs63, hA61, hr64, hl65, hc62⟩ := ha1vc0v_0.at_ g57.1 g57.2
     obtain ⟨A66, c67, rfl, hs68⟩ := hr64
     refine r_indexAddr (c := (cd21 [1, 1, 1, 1, 1, 0, 1, 0, 0, 0, 0])) (i := 4) (d := (some 23)) (ty := 0) (t := 22) (e := 54) (n := a1vc0v.To.length) (cp := ca1vc0v_0) (sz := 1) (kk := .i64) (x := (.tmp 21)) (y := (.tmp 22)) (b := b59) (o' := p60) (j := t1) (by kernel_rfl) (by kernel_rfl) (slv (by kernel_rfl) hA61) (by kernel_rfl) (by kernel_rfl) (by kernel_rfl) g57.1 g57.2 ?_
     refine r_load (c := (cd21 [1, 1, 1, 1, 1, 0, 1, 0, 0, 0, 0])) (i := 5) (d := (some 24)) (ty := 54) (t := 54) (x := (.tmp 23)) (p := ⟨b59, p60 + t1.toNat * 1, none⟩) (v := .slice A66 (gt a1vc0v.To t1).length c67) (by kernel_rfl) (by kernel_rfl) (by kernel_rfl) (loads_at 0 (hc62.cells hS49) (by kernel_rfl) (by kernel_rfl)) ?_
     refine sx_split 2 (todo' := [.inRegion (opsOf (cd21 [1, 1, 1, 1, 1, 0, 1, 0, 0, 0, 0])) [], .code (cd21 [1, 1, 1, 1, 1, 0, 1, 0, 0, 0, 1]), .code (cd21 [1, 1, 1, 1, 1, 0, 1, 0, 0, 1]), .inLoop (cd21 [1, 1, 1, 1, 1, 0, 1, 0, 0]), .inBlock 0, .code (cd21 [1, 1, 1, 1, 1, 1])]) (us := [(25, .int .i64 ((gt a1vc0v.To t1).length : Int))]) (d := 26) (t := (decide (t47 < ((gt a1vc0v.To t1).length : Int)))) (by kernel_rfl) (fun h70 => ?_) (fun h71 => ?_)
     ·skip
      have hp72 := ite_t hp58 h70
      refine sx_run 9 (todo' := [.inRegion (opsOf (cd21 [1, 1, 1, 1, 1, 0, 1, 0, 0, 1, 0, 0])) [3, 4, 5], .inBlock 1, .code (cd21 [1, 1, 1, 1, 1, 0, 1, 0, 0, 1, 1]), .inLoop (cd21 [1, 1, 1, 1, 1, 0, 1, 0, 0]), .inBlock 0, .code (cd21 [1, 1, 1, 1, 1, 1])]) (us := [(29, .slice A44 t43.length c45), (30, .int .i64 t47), (31, .agg (enc_api_Pick (⟨t47, 1, 0⟩ : api_Pick)).toArray)]) (by kernel_rfl) ?_
      refine r_lit (c := (cd21 [1, 1, 1, 1, 1, 0, 1, 0, 0, 1, 0, 0])) (i := 3) (d := (some 32)) (ty := 33) (t := 33) (e := 39) (sz := 3) (n := 1) (parts := #[(0, (.tmp 31))]) (vs := [(0, .agg (enc_api_Pick (⟨t47, 1, 0⟩ : api_Pick)).toArray)]) (z := zeroOf Try.prog 39) (cs' := ([(⟨t47, 1, 0⟩ : api_Pick)] : List api_Pick).flatMap enc_api_Pick) hS49 (by kernel_rfl) (by kernel_rfl) (by kernel_rfl) (by kernel_rfl) (by kernel_rfl) (by decide) (by decide) (by kernel_rfl) rfl (Parts.cons (c := enc_api_Pick (⟨t47, 1, 0⟩ : api_Pick)) (by kernel_rfl) (len_api_Pick _) Parts.nil) rfl ?_
      intro b74 w75 hS76
      have hS77 := hS76.pick2
      obtain ⟨g78, hp79⟩ := ite_some hp72
      refine r_append (c := (cd21 [1, 1, 1, 1, 1, 0, 1, 0, 0, 1, 0, 0])) (i := 4) (d := (some 33)) (ty := 33) (enc := enc_api_Pick) (e := 39) (u := 39) (t := 33) (t2 := 33) (sz := 3) (cp := c45) (A := A44) (bytes := 24) (xs := t43) (ys := ([(⟨t47, 1, 0⟩ : api_Pick)] : List api_Pick)) (s := (.tmp 29)) (x := (.tmp 32)) (xv := .slice (some ⟨b74, 0, none⟩) ([(⟨t47, 1, 0⟩ : api_Pick)] : List api_Pick).length 1) (info := infoOf Try.prog 39) (z := zeroOf Try.prog 39) (ycs := ([(⟨t47, 1, 0⟩ : api_Pick)] : List api_Pick).flatMap enc_api_Pick) hS77 (by kernel_rfl) (by kernel_rfl) (by kernel_rfl) (by kernel_rfl) (by kernel_rfl) (.inl (by kernel_rfl)) (by kernel_rfl) (by kernel_rfl) (by kernel_rfl) (by kernel_rfl) (by kernel_rfl) (by omega) len_api_Pick one_api_Pick (src_row (hS77.row 1 rfl) (by omega) len_api_Pick) rfl g78 (by omega) ?_
      intro A80 c81 w82 hS83
      refine sx_run 8 (todo' := [.inLoop (cd21 [1, 1, 1, 1, 1, 0, 1, 0, 0]), .inBlock 0, .code (cd21 [1, 1, 1, 1, 1, 1])]) (us := [(6, .slice A80 (t43 ++ ([(⟨t47, 1, 0⟩ : api_Pick)] : List api_Pick)).length c81), (27, .int .i64 t47), (28, .int .i64 (IntKind.i64.wrap (t47 + 1))), (7, .int .i64 (IntKind.i64.wrap (t47 + 1)))]) (by kernel_rfl) ?_
      have hS85 := hS83.pick1
      have hS86 := hS85.drop
      have hS87 := hS86.pick2
      have hS88 := hS87.pick1
      have hS89 := hS88.pick2
      refine sx_run 1 (todo' := [.code (cd21 [1, 1, 1, 1, 1, 0, 1, 0, 0]), .inLoop (cd21 [1, 1, 1, 1, 1, 0, 1, 0, 0]), .inBlock 0, .code (cd21 [1, 1, 1, 1, 1, 1])]) (us := []) (by kernel_rfl) ?_
      refine Runs.fill (m := [none, none, some (.pointer (some ⟨ba1vc0, 0, none⟩)), none, none, some (.int .i64 t1), some (.slice A80 (t43 ++ ([(⟨t47, 1, 0⟩ : api_Pick)] : List api_Pick)).length c81), some (.int .i64 (IntKind.i64.wrap (t47 + 1))), none, none, none, none, none, none, none, none, none, none, none, none, none, none, none, none, none, none, none, none, none, none, none, none, none, none, none]) (by kernel_rfl) ?_
      exact ih54 (t43 ++ ([(⟨t47, 1, 0⟩ : api_Pick)] : List api_Pick)) (IntKind.i64.wrap (t47 + 1)) _ hp79 he52 _ A80 c81 _ hS89
     ·skip
      have hp90 := ite_f hp58 h71
      refine sx_run 3 (todo' := [.code (cd21 [1, 1, 1, 1, 1, 1])]) (us := []) (by kernel_rfl) ?_
      have hS91 := hS49.pick2
      have hS92 := hS91.pick2
      refine Runs.fill (m := [none, none, none, none, none, none, some (.slice A44 t43.length c45), none, none, none, none, none, none, none, none, none, none, none, none, none, none, none, none, none, none, none, none, none, none, none, none, none, none, none, none]) (by kernel_rfl) ?_
      exact J39 t43 ((Option.some.inj hp90).trans he52) _ A44 c45 _ hS92
    refine Runs.fill (m := [none, none, some (.pointer (some ⟨ba1vc0, 0, none⟩)), none, none, some (.int .i64 t1), some (.slice A22 t21.length c23), some (.int .i64 0), none, none, none, none, none, none, none, none, none, none, none, none, none, none, none, none, none, none, none, none, none, none, none, none, none, none, none]) (by kernel_rfl) ?_
    exact L56 t21 0 _ hv31 rfl _ A22 c23 _ hS26
   refine r_split a1vc0v.Odd (fun h93 => ?_) (fun h94 => ?_)
   ·skip
    have hp95 := ite_t hv19 h93
    refine sx_run 5 (todo' := [.inRegion (opsOf (cd21 [1, 1, 1, 1, 0, 1, 0])) [2, 3, 4], .code (cd21 [1, 1, 1, 1, 1])]) (us := [(15, .slice none 0 0), (16, .agg (enc_api_Pick (⟨99, 1, 0⟩ : api_Pick)).toArray)]) (by kernel_rfl) ?_
    refine r_lit (c := (cd21 [1, 1, 1, 1, 0, 1, 0])) (i := 2) (d := (some 17)) (ty := 33) (t := 33) (e := 39) (sz := 3) (n := 1) (parts := #[(0, (.tmp 16))]) (vs := [(0, .agg (enc_api_Pick (⟨99, 1, 0⟩ : api_Pick)).toArray)]) (z := zeroOf Try.prog 39) (cs' := ([(⟨99, 1, 0⟩ : api_Pick)] : List api_Pick).flatMap enc_api_Pick) hS7 (by kernel_rfl) (by kernel_rfl) (by kernel_rfl) (by kernel_rfl) (by kernel_rfl) (by decide) (by decide) (by kernel_rfl) rfl (Parts.cons (c := enc_api_Pick (⟨99, 1, 0⟩ : api_Pick)) (by kernel_rfl) (len_api_Pick _) Parts.nil) rfl ?_
    intro b97 w98 hS99
    have hS101 := hS99.nilrow none 39 3
    obtain ⟨g102, hp103⟩ := ite_some hp95
    refine r_append (c := (cd21 [1, 1, 1, 1, 0, 1, 0])) (i := 3) (d := (some 18)) (ty := 33) (enc := enc_api_Pick) (e := 39) (u := 39) (t := 33) (t2 := 33) (sz := 3) (cp := 0) (A := none) (bytes := 24) (xs := ([] : List api_Pick)) (ys := ([(⟨99, 1, 0⟩ : api_Pick)] : List api_Pick)) (s := (.tmp 15)) (x := (.tmp 17)) (xv := .slice (some ⟨b97, 0, none⟩) ([(⟨99, 1, 0⟩ : api_Pick)] : List api_Pick).length 1) (info := infoOf Try.prog 39) (z := zeroOf Try.prog 39) (ycs := ([(⟨99, 1, 0⟩ : api_Pick)] : List api_Pick).flatMap enc_api_Pick) hS101 (by kernel_rfl) (by kernel_rfl) (by kernel_rfl) (by kernel_rfl) (by kernel_rfl) (.inl (by kernel_rfl)) (by kernel_rfl) (by kernel_rfl) (by kernel_rfl) (by kernel_rfl) (by kernel_rfl) (by omega) len_api_Pick one_api_Pick (src_row (hS101.row 1 rfl) (by omega) len_api_Pick) rfl g102 (by omega) ?_
    intro A104 c105 w106 hS107
    refine sx_run 2 (todo' := [.code (cd21 [1, 1, 1, 1, 1])]) (us := [(6, .slice A104 (([] : List api_Pick) ++ ([(⟨99, 1, 0⟩ : api_Pick)] : List api_Pick)).length c105)]) (by kernel_rfl) ?_
    have hS109 := hS107.pick1
    have hS110 := hS109.drop
    have hS111 := hS110.pick2
    have hS112 := hS111.pick1
    have hS113 := hS112.pick2
    refine Runs.fill (m := [none, none, some (.pointer (some ⟨ba1vc0, 0, none⟩)), none, none, some (.int .i64 t1), some (.slice A104 (([] : List api_Pick) ++ ([(⟨99, 1, 0⟩ : api_Pick)] : List api_Pick)).length c105), none, none, none, none, none, none, none, none, none, none, none, none, none, none, none, none, none, none, none, none, none, none, none, none, none, none, none, none]) (by kernel_rfl) ?_
    exact J27 (([] : List api_Pick) ++ ([(⟨99, 1, 0⟩ : api_Pick)] : List api_Pick)) (Option.some.inj hp103) _ A104 c105 _ hS113
   ·skip
    have hp114 := ite_f hv19 h94
    refine sx_run 3 (todo' := [.code (cd21 [1, 1, 1, 1, 1])]) (us := []) (by kernel_rfl) ?_
    have hS116 := hS7.nilrow none 39 3
    have hS117 := hS116.pick2
    have hS118 := hS117.pick1
    have hS119 := hS118.pick2
    refine Runs.fill (m := [none, none, some (.pointer (some ⟨ba1vc0, 0, none⟩)), none, none, some (.int .i64 t1), some (.slice none 0 0), none, none, none, none, none, none, none, none, none, none, none, none, none, none, none, none, none, none, none, none, none, none, none, none, none, none, none, none]) (by kernel_rfl) ?_
    exact J27 [] (Option.some.inj hp114) _ none 0 _ hS119

noncomputable def cd22 (p : List Nat) : Code := sub (bodyOf Try.f22) p
def weirlaw15_Graph__Machine_3.f (a0 : ByteArray) (a1 : api_Pick) (a2vc0v : weirlaw15_Graph) : Option (ByteArray × Bool) :=
  (weirlaw15_Graph__Machine_1.f a0 (⟨a2vc0v.To, a2vc0v.Ends, a2vc0v.Odd, a2vc0v.Holes⟩ : weirlaw15_Graph) >>= (fun t5 => (if (decide (t5 < 0)) = true then some (((⟨#[]⟩ : ByteArray), false)) else (if (a1.Kind != 1) = true then some (((⟨#[]⟩ : ByteArray), false)) else (if (a1.Loc != 0) = true then some (((⟨#[]⟩ : ByteArray), false)) else (if (decide (a1.Thread < 0)) = true then some (((⟨#[]⟩ : ByteArray), false)) else (if 0 ≤ t5 ∧ t5 < (a2vc0v.To.length : Int) then (if (decide (a1.Thread ≥ ((gt a2vc0v.To t5).length : Int))) = true then some (((⟨#[]⟩ : ByteArray), false)) else (if 0 ≤ t5 ∧ t5 < (a2vc0v.To.length : Int) then (if 0 ≤ a1.Thread ∧ a1.Thread < ((gt a2vc0v.To t5).length : Int) then (if (decide ((gt (gt a2vc0v.To t5) a1.Thread) ≥ 0)) = true then some (((ofBytes ([(IntKind.u8.wrap (gt (gt a2vc0v.To t5) a1.Thread))] : List Int)), (decide ((gt (gt a2vc0v.To t5) a1.Thread) < (a2vc0v.To.length : Int))))) else some (((ofBytes ([(IntKind.u8.wrap (gt (gt a2vc0v.To t5) a1.Thread))] : List Int)), false))) else none) else none)) else none)))))))
set_option maxHeartbeats 16000000 in
theorem weirlaw15_Graph__Machine_3.ok (a0 : ByteArray) (a1 : api_Pick) (a2vc0v : weirlaw15_Graph) (ba2 : Nat) (ba2vc0 : Nat) (Aa2vc0v_0 : Option Addr) (ca2vc0v_0 : Nat) {w0 : World} {Z : Zm} {fs : List XObj} {w : World} (hS0 : St w0 Z (xblk ba2 53 ([.func (.func 20) #[] #[.pointer (some ⟨ba2vc0, 0, none⟩)]]) :: xblk ba2vc0 25 ([.slice Aa2vc0v_0 a2vc0v.To.length ca2vc0v_0, .int .u64 a2vc0v.Ends, .bool a2vc0v.Odd, .int .i64 a2vc0v.Holes]) :: fs) w) (ha2vc0v_0 : SlZ (repL (flat (encI .i64)) 1) 1 Z Aa2vc0v_0 ca2vc0v_0 a2vc0v.To) {q0 : ByteArray} {q1 : Bool} (hp0 : weirlaw15_Graph__Machine_3.f a0 a1 a2vc0v = some (q0, q1)) :
    Calls Try.prog 22 #[.string a0, .agg (enc_api_Pick a1).toArray, .pointer (some ⟨ba2, 0, none⟩), .pointer (some ⟨ba2vc0, 0, none⟩)] w (fun e w' => e = .returned (.tuple #[.string q0, .bool q1]) ∧ St w0 Z (xblk ba2 53 ([.func (.func 20) #[] #[.pointer (some ⟨ba2vc0, 0, none⟩)]]) :: xblk ba2vc0 25 ([.slice Aa2vc0v_0 a2vc0v.To.length ca2vc0v_0, .int .u64 a2vc0v.Ends, .bool a2vc0v.Odd, .int .i64 a2vc0v.Holes]) :: fs) w') := by
  refine calls_abs ?_; intro R hR
  unfold weirlaw15_Graph__Machine_3.f at hp0
  refine calls_of_runs (fn := Try.f22) (c := cd22 []) Try.func22 (by kernel_rfl) (al := [.string a0, .agg (enc_api_Pick a1).toArray, .pointer (some ⟨ba2, 0, none⟩), .pointer (some ⟨ba2vc0, 0, none⟩)]) rfl (n := 59) rfl ?_
  refine sx_run 2 (todo' := [.inRegion (opsOf (cd22 [0])) [0, 1, 2], .code (cd22 [1])]) (us := []) (by kernel_rfl) ?_
  refine r_box (c := (cd22 [0])) (i := 0) (d := (some 5)) (ty := 0) (x := (.tmp 1)) (v := .agg (enc_api_Pick a1).toArray) (t := 39) (cs := enc_api_Pick a1) hS0 (by kernel_rfl) (by kernel_rfl) (by kernel_rfl) (by kernel_rfl) ?_
  intro b1 w2 hS3
  refine sx_run 5 (todo' := [.inRegion (opsOf (cd22 [1, 0])) [0, 1, 2, 3], .code (cd22 [1, 1])]) (us := [(6, .string (⟨#[]⟩ : ByteArray)), (7, .bool false)]) (by kernel_rfl) ?_
  refine r_load (c := (cd22 [1, 0])) (i := 0) (d := (some 10)) (ty := 53) (t := 53) (x := (.tmp 2)) (p := ⟨ba2, 0, none⟩) (v := .func (.func 20) #[] #[.pointer (some ⟨ba2vc0, 0, none⟩)]) (by kernel_rfl) (by kernel_rfl) (by kernel_rfl) (loads_at 0 (hS3.blk 1 rfl) (by kernel_rfl) (by kernel_rfl)) ?_
  refine sx_run 1 (todo' := [.inRegion (opsOf (cd22 [1, 0])) [2, 3], .code (cd22 [1, 1])]) (us := [(11, .string a0)]) (by kernel_rfl) ?_
  obtain ⟨t5, hr6, hp7⟩ := bind_some' hp0
  have hS9 := hS3.pick2
  refine r_call1 (c := (cd22 [1, 0])) (i := 2) (d := (some 12)) (g := 20) (args := #[.string a0, .pointer (some ⟨ba2vc0, 0, none⟩)]) (by kernel_rfl) (by kernel_rfl) (by kernel_rfl) (by kernel_rfl) (weirlaw15_Graph__Machine_1.ok a0 (⟨a2vc0v.To, a2vc0v.Ends, a2vc0v.Odd, a2vc0v.Holes⟩ : weirlaw15_Graph) ba2vc0 Aa2vc0v_0 ca2vc0v_0 hS9 ha2vc0v_0 hr6) ?_
  rintro _ w10 ⟨rfl, hS11⟩
  refine ⟨.int .i64 t5, rfl, ?_⟩
  refine sx_run 4 (todo' := [.code (cd22 [1, 1, 0, 0]), .code (cd22 [1, 1, 0, 1]), .code (cd22 [1, 1, 1])]) (us := [(8, .int .i64 t5)]) (by kernel_rfl) ?_
  refine r_quiet hS11 (c := (cd22 [1, 1, 0, 0])) (id := 2) (by kernel_rfl) (by kernel_rfl) (by kernel_rfl) (is := [0, 1, 2, 3, 4, 5, 6, 7, 8, 9, 10, 11, 12, 13, 14, 15, 16, 17, 18, 19, 20, 21, 22, 23, 24, 25, 26, 27]) (by kernel_rfl) ?_
  refine q_splitr 2 (is' := [2, 3, 4, 5, 6, 7, 8, 9, 10, 11, 12, 13, 14, 15, 16, 17, 18, 19, 20, 21, 22, 23, 24, 25, 26, 27]) (us := [(13, .int .i64 t5)]) (d := 14) (t := (decide (t5 < 0))) (by kernel_rfl) (fun h12 => ?_) (fun h13 => ?_)
  ·skip
   have hp14 := ite_t hp7 h12
   refine q_run 26 (is' := []) (us := [(15, .bool true), (16, undef), (17, undef), (18, undef), (19, .bool true), (20, .bool true), (21, undef), (22, undef), (23, undef), (24, .bool true), (25, .bool true), (26, undef), (27, undef), (28, undef), (29, .bool true), (30, .bool true), (31, undef), (32, undef), (33, undef), (34, undef), (35, undef), (36, undef), (37, undef), (38, undef), (39, undef), (40, .bool true)]) (by kernel_rfl) ?_
   refine Qs.nil ?_
   intro w15 hS16
   refine sx_run 6 (todo' := [.code (cd22 [1, 1, 0, 1, 0, 1]), .code (cd22 [1, 1, 1])]) (us := [(6, .string (⟨#[]⟩ : ByteArray)), (7, .bool false)]) (by kernel_rfl) ?_
   have hS17 := hS16.pick1
   have hS18 := hS17.drop
   have hS19 := hS18.pick1
   refine runs_ret (fn := Try.f22) (v := .tuple #[.string (⟨#[]⟩ : ByteArray), .bool false]) Try.func22 (by kernel_rfl) ?_
   have hr20 := (Option.some.inj hp14)
   cases hr20
   exact hR _ _ ⟨rfl, hS19⟩
  ·skip
   have hp21 := ite_f hp7 h13
   refine q_run 2 (is' := [4, 5, 6, 7, 8, 9, 10, 11, 12, 13, 14, 15, 16, 17, 18, 19, 20, 21, 22, 23, 24, 25, 26, 27]) (us := [(15, .bool false), (16, .pointer (some ⟨b1, 1, none⟩))]) (by kernel_rfl) ?_
   refine q_load (c := (cd22 [1, 1, 0, 0])) (i := 4) (d := (some 17)) (ty := 3) (t := 3) (x := (.tmp 16)) (p := ⟨b1, 1, none⟩) (v := .int .i64 a1.Kind) (by kernel_rfl) (by kernel_rfl) (by kernel_rfl) (fun w hC => (loads_at 1 (hC.blk 1 rfl) (by kernel_rfl) (by kernel_rfl))) ?_
   refine q_splitr 1 (is' := [6, 7, 8, 9, 10, 11, 12, 13, 14, 15, 16, 17, 18, 19, 20, 21, 22, 23, 24, 25, 26, 27]) (us := []) (d := 18) (t := (a1.Kind != 1)) (by kernel_rfl) (fun h22 => ?_) (fun h23 => ?_)
   ·skip
    have hp24 := ite_t hp21 h22
    refine q_run 22 (is' := []) (us := [(19, .bool true), (20, .bool true), (21, undef), (22, undef), (23, undef), (24, .bool true), (25, .bool true), (26, undef), (27, undef), (28, undef), (29, .bool true), (30, .bool true), (31, undef), (32, undef), (33, undef), (34, undef), (35, undef), (36, undef), (37, undef), (38, undef), (39, undef), (40, .bool true)]) (by kernel_rfl) ?_
    refine Qs.nil ?_
    intro w25 hS26
    refine sx_run 6 (todo' := [.code (cd22 [1, 1, 0, 1, 0, 1]), .code (cd22 [1, 1, 1])]) (us := [(6, .string (⟨#[]⟩ : ByteArray)), (7, .bool false)]) (by kernel_rfl) ?_
    have hS27 := hS26.pick1
    have hS28 := hS27.drop
    have hS29 := hS28.pick1
    refine runs_ret (fn := Try.f22) (v := .tuple #[.string (⟨#[]⟩ : ByteArray), .bool false]) Try.func22 (by kernel_rfl) ?_
    have hr30 := (Option.some.inj hp24)
    cases hr30
    exact hR _ _ ⟨rfl, hS29⟩
   ·skip
    have hp31 := ite_f hp21 h23
    refine q_run 3 (is' := [9, 10, 11, 12, 13, 14, 15, 16, 17, 18, 19, 20, 21, 22, 23, 24, 25, 26, 27]) (us := [(19, .bool false), (20, .bool false), (21, .pointer (some ⟨b1, 2, none⟩))]) (by kernel_rfl) ?_
    refine q_load (c := (cd22 [1, 1, 0, 0])) (i := 9) (d := (some 22)) (ty := 3) (t := 3) (x := (.tmp 21)) (p := ⟨b1, 2, none⟩) (v := .int .i64 a1.Loc) (by kernel_rfl) (by kernel_rfl) (by kernel_rfl) (fun w hC => (loads_at 2 (hC.blk 1 rfl) (by kernel_rfl) (by kernel_rfl))) ?_
    refine q_splitr 1 (is' := [11, 12, 13, 14, 15, 16, 17, 18, 19, 20, 21, 22, 23, 24, 25, 26, 27]) (us := []) (d := 23) (t := (a1.Loc != 0)) (by kernel_rfl) (fun h32 => ?_) (fun h33 => ?_)
    ·skip
     have hp34 := ite_t hp31 h32
     refine q_run 17 (is' := []) (us := [(24, .bool true), (25, .bool true), (26, undef), (27, undef), (28, undef), (29, .bool true), (30, .bool true), (31, undef), (32, undef), (33, undef), (34, undef), (35, undef), (36, undef), (37, undef), (38, undef), (39, undef), (40, .bool true)]) (by kernel_rfl) ?_
     refine Qs.nil ?_
     intro w35 hS36
     refine sx_run 6 (todo' := [.code (cd22 [1, 1, 0, 1, 0, 1]), .code (cd22 [1, 1, 1])]) (us := [(6, .string (⟨#[]⟩ : ByteArray)), (7, .bool false)]) (by kernel_rfl) ?_
     have hS37 := hS36.pick1
     have hS38 := hS37.drop
     have hS39 := hS38.pick1
     refine runs_ret (fn := Try.f22) (v := .tuple #[.string (⟨#[]⟩ : ByteArray), .bool false]) Try.func22 (by kernel_rfl) ?_
     have hr40 := (Option.some.inj hp34)
     cases hr40
     exact hR _ _ ⟨rfl, hS39⟩
    ·skip
     have hp41 := ite_f hp31 h33
     refine q_run 3 (is' := [14, 15, 16, 17, 18, 19, 20, 21, 22, 23, 24, 25, 26, 27]) (us := [(24, .bool false), (25, .bool false), (26, .pointer (some ⟨b1, 0, none⟩))]) (by kernel_rfl) ?_
     refine q_load (c := (cd22 [1, 1, 0, 0])) (i := 14) (d := (some 27)) (ty := 3) (t := 3) (x := (.tmp 26)) (p := ⟨b1, 0, none⟩) (v := .int .i64 a1.Thread) (by kernel_rfl) (by kernel_rfl) (by kernel_rfl) (fun w hC => (loads_at 0 (hC.blk 1 rfl) (by kernel_rfl) (by kernel_rfl))) ?_
     refine q_splitr 1 (is' := [16, 17, 18, 19, 20, 21, 22, 23, 24, 25, 26, 27]) (us := []) (d := 28) (t := (decide (a1.Thread < 0))) (by kernel_rfl) (fun h42 => ?_) (fun h43 => ?_)
     ·skip
      have hp44 := ite_t hp41 h42
      refine q_run 12 (is' := []) (us := [(29, .bool true), (30, .bool true), (31, undef), (32, undef), (33, undef), (34, undef), (35, undef), (36, undef), (37, undef), (38, undef), (39, undef), (40, .bool true)]) (by kernel_rfl) ?_
      refine Qs.nil ?_
      intro w45 hS46
      refine sx_run 6 (todo' := [.code (cd22 [1, 1, 0, 1, 0, 1]), .code (cd22 [1, 1, 1])]) (us := [(6, .string (⟨#[]⟩ : ByteArray)), (7, .bool false)]) (by kernel_rfl) ?_
      have hS47 := hS46.pick1
      have hS48 := hS47.drop
      have hS49 := hS48.pick1
      refine runs_ret (fn := Try.f22) (v := .tuple #[.string (⟨#[]⟩ : ByteArray), .bool false]) Try.func22 (by kernel_rfl) ?_
      have hr50 := (Option.some.inj hp44)
      cases hr50
      exact hR _ _ ⟨rfl, hS49⟩
     ·skip
      have hp51 := ite_f hp41 h43
      refine q_run 3 (is' := [19, 20, 21, 22, 23, 24, 25, 26, 27]) (us := [(29, .bool false), (30, .bool false), (31, .pointer (some ⟨b1, 0, none⟩))]) (by kernel_rfl) ?_
      refine q_load (c := (cd22 [1, 1, 0, 0])) (i := 19) (d := (some 32)) (ty := 3) (t := 3) (x := (.tmp 31)) (p := ⟨b1, 0, none⟩) (v := .int .i64 a1.Thread) (by kernel_rfl) (by kernel_rfl) (by kernel_rfl) (fun w hC => (loads_at 0 (hC.blk 1 rfl) (by kernel_rfl) (by kernel_rfl))) ?_
      refine q_run 1 (is' := [21, 22, 23, 24, 25, 26, 27]) (us := [(33, .pointer (some ⟨ba2vc0, 0, none⟩))]) (by kernel_rfl) ?_
      refine q_load (c := (cd22 [1, 1, 0, 0])) (i := 21) (d := (some 34)) (ty := 22) (t := 22) (x := (.tmp 33)) (p := ⟨ba2vc0, 0, none⟩) (v := .slice Aa2vc0v_0 a2vc0v.To.length ca2vc0v_0) (by kernel_rfl) (by kernel_rfl) (by kernel_rfl) (fun w hC => (loads_at 0 (hC.blk 0 rfl) (by kernel_rfl) (by kernel_rfl))) ?_
      refine q_run 1 (is' := [23, 24, 25, 26, 27]) (us := [(35, .int .i64 t5)]) (by kernel_rfl) ?_
      obtain ⟨g52, hp53⟩ := ite_some hp51
      obtain ⟨b54, p55, cs58, hA56, hr59, hl60, hc57⟩ := ha2vc0v_0.at_ g52.1 g52.2
      obtain ⟨A61, c62, rfl, hs63⟩ := hr59
      refine q_indexAddr (c := (cd22 [1, 1, 0, 0])) (i := 23) (d := (some 36)) (ty := 0) (t := 22) (e := 54) (n := a2vc0v.To.length) (cp := ca2vc0v_0) (sz := 1) (kk := .i64) (x := (.tmp 34)) (y := (.tmp 35)) (b := b54) (o' := p55) (j := t5) (by kernel_rfl) (by kernel_rfl) (slv (by kernel_rfl) hA56) (by kernel_rfl) (by kernel_rfl) (by kernel_rfl) g52.1 g52.2 ?_
      refine q_load (c := (cd22 [1, 1, 0, 0])) (i := 24) (d := (some 37)) (ty := 54) (t := 54) (x := (.tmp 36)) (p := ⟨b54, p55 + t5.toNat * 1, none⟩) (v := .slice A61 (gt a2vc0v.To t5).length c62) (by kernel_rfl) (by kernel_rfl) (by kernel_rfl) (fun w hC => (loads_at 0 (hc57.cells hC) (by kernel_rfl) (by kernel_rfl))) ?_
      refine q_splitr 2 (is' := [27]) (us := [(38, .int .i64 ((gt a2vc0v.To t5).length : Int))]) (d := 39) (t := (decide (a1.Thread ≥ ((gt a2vc0v.To t5).length : Int)))) (by kernel_rfl) (fun h65 => ?_) (fun h66 => ?_)
      ·skip
       have hp67 := ite_t hp53 h65
       refine q_run 1 (is' := []) (us := [(40, .bool true)]) (by kernel_rfl) ?_
       refine Qs.nil ?_
       intro w68 hS69
       refine sx_run 6 (todo' := [.code (cd22 [1, 1, 0, 1, 0, 1]), .code (cd22 [1, 1, 1])]) (us := [(6, .string (⟨#[]⟩ : ByteArray)), (7, .bool false)]) (by kernel_rfl) ?_
       have hS70 := hS69.pick1
       have hS71 := hS70.drop
       have hS72 := hS71.pick1
       refine runs_ret (fn := Try.f22) (v := .tuple #[.string (⟨#[]⟩ : ByteArray), .bool false]) Try.func22 (by kernel_rfl) ?_
       have hr73 := (Option.some.inj hp67)
       cases hr73
       exact hR _ _ ⟨rfl, hS72⟩
      ·skip
       have hp74 := ite_f hp53 h66
       refine q_run 1 (is' := []) (us := [(40, .bool false)]) (by kernel_rfl) ?_
       refine Qs.nil ?_
       intro w75 hS76
       refine sx_run 3 (todo' := [.code (cd22 [1, 1, 1, 0]), .code (cd22 [1, 1, 1, 1])]) (us := []) (by kernel_rfl) ?_
       refine r_quiet hS76 (c := (cd22 [1, 1, 1, 0])) (id := 4) (by kernel_rfl) (by kernel_rfl) (by kernel_rfl) (is := [0, 1, 2, 3, 4, 5, 6, 7, 8, 9]) (by kernel_rfl) ?_
       refine q_run 1 (is' := [1, 2, 3, 4, 5, 6, 7, 8, 9]) (us := [(41, .pointer (some ⟨ba2vc0, 0, none⟩))]) (by kernel_rfl) ?_
       refine q_load (c := (cd22 [1, 1, 1, 0])) (i := 1) (d := (some 42)) (ty := 22) (t := 22) (x := (.tmp 41)) (p := ⟨ba2vc0, 0, none⟩) (v := .slice Aa2vc0v_0 a2vc0v.To.length ca2vc0v_0) (by kernel_rfl) (by kernel_rfl) (by kernel_rfl) (fun w hC => (loads_at 0 (hC.blk 0 rfl) (by kernel_rfl) (by kernel_rfl))) ?_
       refine q_run 1 (is' := [3, 4, 5, 6, 7, 8, 9]) (us := [(43, .int .i64 t5)]) (by kernel_rfl) ?_
       obtain ⟨g77, hp78⟩ := ite_some hp74
       obtain ⟨b79, p80, cs83, hA81, hr84, hl85, hc82⟩ := ha2vc0v_0.at_ g77.1 g77.2
       obtain ⟨A86, c87, rfl, hs88⟩ := hr84
       refine q_indexAddr (c := (cd22 [1, 1, 1, 0])) (i := 3) (d := (some 44)) (ty := 0) (t := 22) (e := 54) (n := a2vc0v.To.length) (cp := ca2vc0v_0) (sz := 1) (kk := .i64) (x := (.tmp 42)) (y := (.tmp 43)) (b := b79) (o' := p80) (j := t5) (by kernel_rfl) (by kernel_rfl) (slv (by kernel_rfl) hA81) (by kernel_rfl) (by kernel_rfl) (by kernel_rfl) g77.1 g77.2 ?_
       refine q_load (c := (cd22 [1, 1, 1, 0])) (i := 4) (d := (some 45)) (ty := 54) (t := 54) (x := (.tmp 44)) (p := ⟨b79, p80 + t5.toNat * 1, none⟩) (v := .slice A86 (gt a2vc0v.To t5).length c87) (by kernel_rfl) (by kernel_rfl) (by kernel_rfl) (fun w hC => (loads_at 0 (hc82.cells hC) (by kernel_rfl) (by kernel_rfl))) ?_
       refine q_run 1 (is' := [6, 7, 8, 9]) (us := [(46, .pointer (some ⟨b1, 0, none⟩))]) (by kernel_rfl) ?_
       refine q_load (c := (cd22 [1, 1, 1, 0])) (i := 6) (d := (some 47)) (ty := 3) (t := 3) (x := (.tmp 46)) (p := ⟨b1, 0, none⟩) (v := .int .i64 a1.Thread) (by kernel_rfl) (by kernel_rfl) (by kernel_rfl) (fun w hC => (loads_at 0 (hC.blk 1 rfl) (by kernel_rfl) (by kernel_rfl))) ?_
       obtain ⟨g90, hp91⟩ := ite_some hp78
       obtain ⟨b92, p93, hA94, hc95⟩ := hs88.atF g90.1 g90.2
       refine q_indexAddr (c := (cd22 [1, 1, 1, 0])) (i := 7) (d := (some 48)) (ty := 0) (t := 54) (e := 3) (n := (gt a2vc0v.To t5).length) (cp := c87) (sz := 1) (kk := .i64) (x := (.tmp 45)) (y := (.tmp 47)) (b := b92) (o' := p93) (j := a1.Thread) (by kernel_rfl) (by kernel_rfl) (slv (by kernel_rfl) hA94) (by kernel_rfl) (by kernel_rfl) (by kernel_rfl) g90.1 g90.2 ?_
       refine q_load (c := (cd22 [1, 1, 1, 0])) (i := 8) (d := (some 49)) (ty := 3) (t := 3) (x := (.tmp 48)) (p := ⟨b92, p93 + a1.Thread.toNat * 1, none⟩) (v := .int .i64 (gt (gt a2vc0v.To t5) a1.Thread)) (by kernel_rfl) (by kernel_rfl) (by kernel_rfl) (fun w hC => (loads_at 0 (hc95.cells hC) (by kernel_rfl) (by kernel_rfl))) ?_
       refine q_run 1 (is' := []) (us := [(9, .int .i64 (gt (gt a2vc0v.To t5) a1.Thread))]) (by kernel_rfl) ?_
       refine Qs.nil ?_
       intro w96 hS97
       refine sx_run 1 (todo' := [.code (cd22 [1, 1, 1, 1, 0]), .code (cd22 [1, 1, 1, 1, 1])]) (us := []) (by kernel_rfl) ?_
       rcases Bool.eq_false_or_eq_true (decide ((gt (gt a2vc0v.To t5) a1.Thread) ≥ 0)) with h100 | h100
       ·skip
        have hp101 := ite_t hp91 h100
        refine r_drawnH (S := Option Nat) (rank := (fun st => match st with | none => 0 | some b98 => 1)) (C := (fun st w' => match st with | none => St w0 Z (xblk ba2vc0 25 ([.slice Aa2vc0v_0 a2vc0v.To.length ca2vc0v_0, .int .u64 a2vc0v.Ends, .bool a2vc0v.Odd, .int .i64 a2vc0v.Holes]) :: xblk b1 39 (enc_api_Pick a1) :: xblk ba2 53 ([.func (.func 20) #[] #[.pointer (some ⟨ba2vc0, 0, none⟩)]]) :: fs) w' | some b98 => St w0 Z (xrow (some ⟨b98, 0, none⟩) 1 5 1 (([(IntKind.u8.wrap (gt (gt a2vc0v.To t5) a1.Thread))] : List Int).flatMap (encI .u8)) :: xblk ba2vc0 25 ([.slice Aa2vc0v_0 a2vc0v.To.length ca2vc0v_0, .int .u64 a2vc0v.Ends, .bool a2vc0v.Odd, .int .i64 a2vc0v.Holes]) :: xblk b1 39 (enc_api_Pick a1) :: xblk ba2 53 ([.func (.func 20) #[] #[.pointer (some ⟨ba2vc0, 0, none⟩)]]) :: fs) w')) (v := (fun st => match st with | none => [.int .i64 (gt (gt a2vc0v.To t5) a1.Thread), .int .u8 (IntKind.u8.wrap (gt (gt a2vc0v.To t5) a1.Thread)), undef, undef, .int .i64 (gt (gt a2vc0v.To t5) a1.Thread), .bool (decide ((gt (gt a2vc0v.To t5) a1.Thread) ≥ 0)), .bool true, .int .i64 (gt (gt a2vc0v.To t5) a1.Thread), .pointer (some ⟨ba2vc0, 0, none⟩), .slice Aa2vc0v_0 a2vc0v.To.length ca2vc0v_0, .int .i64 (a2vc0v.To.length : Int), .bool (decide ((gt (gt a2vc0v.To t5) a1.Thread) < (a2vc0v.To.length : Int))), .bool (decide ((gt (gt a2vc0v.To t5) a1.Thread) < (a2vc0v.To.length : Int))), undef, undef] | some b98 => [.int .i64 (gt (gt a2vc0v.To t5) a1.Thread), .int .u8 (IntKind.u8.wrap (gt (gt a2vc0v.To t5) a1.Thread)), .slice (some ⟨b98, 0, none⟩) ([(IntKind.u8.wrap (gt (gt a2vc0v.To t5) a1.Thread))] : List Int).length 1, .string (ofBytes ([(IntKind.u8.wrap (gt (gt a2vc0v.To t5) a1.Thread))] : List Int)), .int .i64 (gt (gt a2vc0v.To t5) a1.Thread), .bool (decide ((gt (gt a2vc0v.To t5) a1.Thread) ≥ 0)), .bool true, .int .i64 (gt (gt a2vc0v.To t5) a1.Thread), .pointer (some ⟨ba2vc0, 0, none⟩), .slice Aa2vc0v_0 a2vc0v.To.length ca2vc0v_0, .int .i64 (a2vc0v.To.length : Int), .bool (decide ((gt (gt a2vc0v.To t5) a1.Thread) < (a2vc0v.To.length : Int))), .bool (decide ((gt (gt a2vc0v.To t5) a1.Thread) < (a2vc0v.To.length : Int))), .string (ofBytes ([(IntKind.u8.wrap (gt (gt a2vc0v.To t5) a1.Thread))] : List Int)), .bool (decide ((gt (gt a2vc0v.To t5) a1.Thread) < (a2vc0v.To.length : Int)))])) (c := (cd22 [1, 1, 1, 1, 0])) (id := 5) none 0 15 [2] [0, 0, 0, 1, 0, 0, 0, 0, 0, 0, 0, 0, 0, 1, 1] [1, 0, 1, 1, 1, 1, 1, 1, 1, 1, 1, 1, 1, 1, 1] [] [true, true, true, true, true, true, true, true, true, true, true, true, true, true, true] (by kernel_rfl) (by kernel_rfl) (by kernel_rfl) (by kernel_rfl) (by kernel_rfl) (by kernel_rfl) (by kernel_rfl) (by kernel_rfl) (by kernel_rfl) rfl hS97.drew ?_ ?_ (fun k hk => match k, hk with | 0, _ => rfl | k + 1, hk => absurd hk (by simp)) ?_ ?_ ?_
        ·intro st w hC
         rcases st with _ | b98
         ·exact Nat.le_of_ble_eq_true rfl
         ·exact Nat.le_of_ble_eq_true rfl
        ·intro i hi st w hC hr
         match i, hi with
         | 0, _ => (show _ = _; kernel_rfl)
         | 1, _ => (show _ = _; kernel_rfl)
         | 2, _ => (show _ = _; kernel_rfl)
         | 3, _ => (show _ = _; kernel_rfl)
         | 4, _ => (show _ = _; kernel_rfl)
         | 5, _ => (show _ = _; kernel_rfl)
         | 6, _ => (show _ = _; kernel_rfl)
         | 7, _ =>
          rcases st with _ | b98
          ·(show _ = _; kernel_rfl)
          ·(show _ = _; kernel_rfl)
         | 8, _ =>
          rcases st with _ | b98
          ·(show _ = _; kernel_rfl)
          ·(show _ = _; kernel_rfl)
         | 9, _ =>
          rcases st with _ | b98
          ·(show _ = _; kernel_rfl)
          ·(show _ = _; kernel_rfl)
         | 10, _ =>
          rcases st with _ | b98
          ·(show _ = _; kernel_rfl)
          ·(show _ = _; kernel_rfl)
         | 11, _ =>
          rcases st with _ | b98
          ·(show _ = _; kernel_rfl)
          ·(show _ = _; kernel_rfl)
         | 12, _ => (show _ = _; kernel_rfl)
         | 13, _ => (show _ = _; kernel_rfl)
         | 14, _ => (show _ = _; kernel_rfl)
         | i + 15, hi => exact absurd hi (by omega)
        ·intro i hi he st w hC hr hu
         match i, hi, he with
         | 0, _, _ =>
          rcases st with _ | b98
          ·replace hC : St w0 Z (xblk ba2vc0 25 ([.slice Aa2vc0v_0 a2vc0v.To.length ca2vc0v_0, .int .u64 a2vc0v.Ends, .bool a2vc0v.Odd, .int .i64 a2vc0v.Holes]) :: xblk b1 39 (enc_api_Pick a1) :: xblk ba2 53 ([.func (.func 20) #[] #[.pointer (some ⟨ba2vc0, 0, none⟩)]]) :: fs) w := hC
           exact ⟨fun _ => does_pure (v := .int .i64 (gt (gt a2vc0v.To t5) a1.Thread)) (by kernel_rfl) rfl hC, fun h => absurd h (by decide)⟩
          ·replace hC : St w0 Z (xrow (some ⟨b98, 0, none⟩) 1 5 1 (([(IntKind.u8.wrap (gt (gt a2vc0v.To t5) a1.Thread))] : List Int).flatMap (encI .u8)) :: xblk ba2vc0 25 ([.slice Aa2vc0v_0 a2vc0v.To.length ca2vc0v_0, .int .u64 a2vc0v.Ends, .bool a2vc0v.Odd, .int .i64 a2vc0v.Holes]) :: xblk b1 39 (enc_api_Pick a1) :: xblk ba2 53 ([.func (.func 20) #[] #[.pointer (some ⟨ba2vc0, 0, none⟩)]]) :: fs) w := hC
           exact ⟨fun _ => does_pure (v := .int .i64 (gt (gt a2vc0v.To t5) a1.Thread)) (by kernel_rfl) rfl hC, fun h => absurd h (by decide)⟩
         | 1, _, _ =>
          rcases st with _ | b98
          ·replace hC : St w0 Z (xblk ba2vc0 25 ([.slice Aa2vc0v_0 a2vc0v.To.length ca2vc0v_0, .int .u64 a2vc0v.Ends, .bool a2vc0v.Odd, .int .i64 a2vc0v.Holes]) :: xblk b1 39 (enc_api_Pick a1) :: xblk ba2 53 ([.func (.func 20) #[] #[.pointer (some ⟨ba2vc0, 0, none⟩)]]) :: fs) w := hC
           exact ⟨fun _ => does_pure (v := .int .u8 (IntKind.u8.wrap (gt (gt a2vc0v.To t5) a1.Thread))) (by kernel_rfl) rfl hC, fun h => absurd h (by decide)⟩
          ·exact absurd hu (Nat.not_le_of_gt (Nat.le_of_ble_eq_true rfl))
         | 2, _, he => exact absurd he (by decide)
         | 3, _, _ =>
          rcases st with _ | b98
          ·exact absurd hr (Nat.not_le_of_gt (Nat.le_of_ble_eq_true rfl))
          ·replace hC : St w0 Z (xrow (some ⟨b98, 0, none⟩) 1 5 1 (([(IntKind.u8.wrap (gt (gt a2vc0v.To t5) a1.Thread))] : List Int).flatMap (encI .u8)) :: xblk ba2vc0 25 ([.slice Aa2vc0v_0 a2vc0v.To.length ca2vc0v_0, .int .u64 a2vc0v.Ends, .bool a2vc0v.Odd, .int .i64 a2vc0v.Holes]) :: xblk b1 39 (enc_api_Pick a1) :: xblk ba2 53 ([.func (.func 20) #[] #[.pointer (some ⟨ba2vc0, 0, none⟩)]]) :: fs) w := hC
           exact ⟨fun _ => does_run (x_bytesStr (src := 55) (dst := 9) (x := (.tmp 52)) (e := 5) (A := (some ⟨b98, 0, none⟩)) (c := 1) (by kernel_rfl) (src_row (hC.row 0 rfl) (by omega) (len_encI .u8)) (by kernel_rfl) (by kernel_rfl) (by kernel_rfl) (by kernel_rfl)) rfl hC, fun h => absurd h (by decide)⟩
         | 4, _, _ =>
          rcases st with _ | b98
          ·replace hC : St w0 Z (xblk ba2vc0 25 ([.slice Aa2vc0v_0 a2vc0v.To.length ca2vc0v_0, .int .u64 a2vc0v.Ends, .bool a2vc0v.Odd, .int .i64 a2vc0v.Holes]) :: xblk b1 39 (enc_api_Pick a1) :: xblk ba2 53 ([.func (.func 20) #[] #[.pointer (some ⟨ba2vc0, 0, none⟩)]]) :: fs) w := hC
           exact ⟨fun _ => does_pure (v := .int .i64 (gt (gt a2vc0v.To t5) a1.Thread)) (by kernel_rfl) rfl hC, fun h => absurd h (by decide)⟩
          ·replace hC : St w0 Z (xrow (some ⟨b98, 0, none⟩) 1 5 1 (([(IntKind.u8.wrap (gt (gt a2vc0v.To t5) a1.Thread))] : List Int).flatMap (encI .u8)) :: xblk ba2vc0 25 ([.slice Aa2vc0v_0 a2vc0v.To.length ca2vc0v_0, .int .u64 a2vc0v.Ends, .bool a2vc0v.Odd, .int .i64 a2vc0v.Holes]) :: xblk b1 39 (enc_api_Pick a1) :: xblk ba2 53 ([.func (.func 20) #[] #[.pointer (some ⟨ba2vc0, 0, none⟩)]]) :: fs) w := hC
           exact ⟨fun _ => does_pure (v := .int .i64 (gt (gt a2vc0v.To t5) a1.Thread)) (by kernel_rfl) rfl hC, fun h => absurd h (by decide)⟩
         | 5, _, _ =>
          rcases st with _ | b98
          ·replace hC : St w0 Z (xblk ba2vc0 25 ([.slice Aa2vc0v_0 a2vc0v.To.length ca2vc0v_0, .int .u64 a2vc0v.Ends, .bool a2vc0v.Odd, .int .i64 a2vc0v.Holes]) :: xblk b1 39 (enc_api_Pick a1) :: xblk ba2 53 ([.func (.func 20) #[] #[.pointer (some ⟨ba2vc0, 0, none⟩)]]) :: fs) w := hC
           exact ⟨fun _ => does_pure (v := .bool (decide ((gt (gt a2vc0v.To t5) a1.Thread) ≥ 0))) (by kernel_rfl) rfl hC, fun h => absurd h (by decide)⟩
          ·replace hC : St w0 Z (xrow (some ⟨b98, 0, none⟩) 1 5 1 (([(IntKind.u8.wrap (gt (gt a2vc0v.To t5) a1.Thread))] : List Int).flatMap (encI .u8)) :: xblk ba2vc0 25 ([.slice Aa2vc0v_0 a2vc0v.To.length ca2vc0v_0, .int .u64 a2vc0v.Ends, .bool a2vc0v.Odd, .int .i64 a2vc0v.Holes]) :: xblk b1 39 (enc_api_Pick a1) :: xblk ba2 53 ([.func (.func 20) #[] #[.pointer (some ⟨ba2vc0, 0, none⟩)]]) :: fs) w := hC
           exact ⟨fun _ => does_pure (v := .bool (decide ((gt (gt a2vc0v.To t5) a1.Thread) ≥ 0))) (by kernel_rfl) rfl hC, fun h => absurd h (by decide)⟩
         | 6, _, _ =>
          rcases st with _ | b98
          ·replace hC : St w0 Z (xblk ba2vc0 25 ([.slice Aa2vc0v_0 a2vc0v.To.length ca2vc0v_0, .int .u64 a2vc0v.Ends, .bool a2vc0v.Odd, .int .i64 a2vc0v.Holes]) :: xblk b1 39 (enc_api_Pick a1) :: xblk ba2 53 ([.func (.func 20) #[] #[.pointer (some ⟨ba2vc0, 0, none⟩)]]) :: fs) w := hC
           exact ⟨fun _ => does_pure (v := .bool (decide ((gt (gt a2vc0v.To t5) a1.Thread) ≥ 0))) (by kernel_rfl) (congrArg Value.bool h100) hC, fun h => absurd h (by decide)⟩
          ·replace hC : St w0 Z (xrow (some ⟨b98, 0, none⟩) 1 5 1 (([(IntKind.u8.wrap (gt (gt a2vc0v.To t5) a1.Thread))] : List Int).flatMap (encI .u8)) :: xblk ba2vc0 25 ([.slice Aa2vc0v_0 a2vc0v.To.length ca2vc0v_0, .int .u64 a2vc0v.Ends, .bool a2vc0v.Odd, .int .i64 a2vc0v.Holes]) :: xblk b1 39 (enc_api_Pick a1) :: xblk ba2 53 ([.func (.func 20) #[] #[.pointer (some ⟨ba2vc0, 0, none⟩)]]) :: fs) w := hC
           exact ⟨fun _ => does_pure (v := .bool (decide ((gt (gt a2vc0v.To t5) a1.Thread) ≥ 0))) (by kernel_rfl) (congrArg Value.bool h100) hC, fun h => absurd h (by decide)⟩
         | 7, _, _ =>
          rcases st with _ | b98
          ·replace hC : St w0 Z (xblk ba2vc0 25 ([.slice Aa2vc0v_0 a2vc0v.To.length ca2vc0v_0, .int .u64 a2vc0v.Ends, .bool a2vc0v.Odd, .int .i64 a2vc0v.Holes]) :: xblk b1 39 (enc_api_Pick a1) :: xblk ba2 53 ([.func (.func 20) #[] #[.pointer (some ⟨ba2vc0, 0, none⟩)]]) :: fs) w := hC
           exact ⟨fun _ => does_pure (v := .int .i64 (gt (gt a2vc0v.To t5) a1.Thread)) (by kernel_rfl) rfl hC, fun h => absurd h (by decide)⟩
          ·replace hC : St w0 Z (xrow (some ⟨b98, 0, none⟩) 1 5 1 (([(IntKind.u8.wrap (gt (gt a2vc0v.To t5) a1.Thread))] : List Int).flatMap (encI .u8)) :: xblk ba2vc0 25 ([.slice Aa2vc0v_0 a2vc0v.To.length ca2vc0v_0, .int .u64 a2vc0v.Ends, .bool a2vc0v.Odd, .int .i64 a2vc0v.Holes]) :: xblk b1 39 (enc_api_Pick a1) :: xblk ba2 53 ([.func (.func 20) #[] #[.pointer (some ⟨ba2vc0, 0, none⟩)]]) :: fs) w := hC
           exact ⟨fun _ => does_pure (v := .int .i64 (gt (gt a2vc0v.To t5) a1.Thread)) (by kernel_rfl) rfl hC, fun h => absurd h (by decide)⟩
         | 8, _, _ =>
          rcases st with _ | b98
          ·replace hC : St w0 Z (xblk ba2vc0 25 ([.slice Aa2vc0v_0 a2vc0v.To.length ca2vc0v_0, .int .u64 a2vc0v.Ends, .bool a2vc0v.Odd, .int .i64 a2vc0v.Holes]) :: xblk b1 39 (enc_api_Pick a1) :: xblk ba2 53 ([.func (.func 20) #[] #[.pointer (some ⟨ba2vc0, 0, none⟩)]]) :: fs) w := hC
           exact ⟨fun _ => does_pure (v := .pointer (some ⟨ba2vc0, 0, none⟩)) (by kernel_rfl) rfl hC, fun h => absurd h (by decide)⟩
          ·replace hC : St w0 Z (xrow (some ⟨b98, 0, none⟩) 1 5 1 (([(IntKind.u8.wrap (gt (gt a2vc0v.To t5) a1.Thread))] : List Int).flatMap (encI .u8)) :: xblk ba2vc0 25 ([.slice Aa2vc0v_0 a2vc0v.To.length ca2vc0v_0, .int .u64 a2vc0v.Ends, .bool a2vc0v.Odd, .int .i64 a2vc0v.Holes]) :: xblk b1 39 (enc_api_Pick a1) :: xblk ba2 53 ([.func (.func 20) #[] #[.pointer (some ⟨ba2vc0, 0, none⟩)]]) :: fs) w := hC
           exact ⟨fun _ => does_pure (v := .pointer (some ⟨ba2vc0, 0, none⟩)) (by kernel_rfl) rfl hC, fun h => absurd h (by decide)⟩
         | 9, _, _ =>
          rcases st with _ | b98
          ·replace hC : St w0 Z (xblk ba2vc0 25 ([.slice Aa2vc0v_0 a2vc0v.To.length ca2vc0v_0, .int .u64 a2vc0v.Ends, .bool a2vc0v.Odd, .int .i64 a2vc0v.Holes]) :: xblk b1 39 (enc_api_Pick a1) :: xblk ba2 53 ([.func (.func 20) #[] #[.pointer (some ⟨ba2vc0, 0, none⟩)]]) :: fs) w := hC
           exact ⟨fun _ => does_run (x_load (t := 22) (x := (.tmp 58)) (p := ⟨ba2vc0, 0, none⟩) (v := .slice Aa2vc0v_0 a2vc0v.To.length ca2vc0v_0) (by kernel_rfl) (loads_at 0 (hC.blk 0 rfl) (by kernel_rfl) (by kernel_rfl)) (by kernel_rfl)) rfl hC, fun h => absurd h (by decide)⟩
          ·replace hC : St w0 Z (xrow (some ⟨b98, 0, none⟩) 1 5 1 (([(IntKind.u8.wrap (gt (gt a2vc0v.To t5) a1.Thread))] : List Int).flatMap (encI .u8)) :: xblk ba2vc0 25 ([.slice Aa2vc0v_0 a2vc0v.To.length ca2vc0v_0, .int .u64 a2vc0v.Ends, .bool a2vc0v.Odd, .int .i64 a2vc0v.Holes]) :: xblk b1 39 (enc_api_Pick a1) :: xblk ba2 53 ([.func (.func 20) #[] #[.pointer (some ⟨ba2vc0, 0, none⟩)]]) :: fs) w := hC
           exact ⟨fun _ => does_run (x_load (t := 22) (x := (.tmp 58)) (p := ⟨ba2vc0, 0, none⟩) (v := .slice Aa2vc0v_0 a2vc0v.To.length ca2vc0v_0) (by kernel_rfl) (loads_at 0 (hC.blk 1 rfl) (by kernel_rfl) (by kernel_rfl)) (by kernel_rfl)) rfl hC, fun h => absurd h (by decide)⟩
         | 10, _, _ =>
          rcases st with _ | b98
          ·replace hC : St w0 Z (xblk ba2vc0 25 ([.slice Aa2vc0v_0 a2vc0v.To.length ca2vc0v_0, .int .u64 a2vc0v.Ends, .bool a2vc0v.Odd, .int .i64 a2vc0v.Holes]) :: xblk b1 39 (enc_api_Pick a1) :: xblk ba2 53 ([.func (.func 20) #[] #[.pointer (some ⟨ba2vc0, 0, none⟩)]]) :: fs) w := hC
           exact ⟨fun _ => does_pure (v := .int .i64 (a2vc0v.To.length : Int)) (by kernel_rfl) rfl hC, fun h => absurd h (by decide)⟩
          ·replace hC : St w0 Z (xrow (some ⟨b98, 0, none⟩) 1 5 1 (([(IntKind.u8.wrap (gt (gt a2vc0v.To t5) a1.Thread))] : List Int).flatMap (encI .u8)) :: xblk ba2vc0 25 ([.slice Aa2vc0v_0 a2vc0v.To.length ca2vc0v_0, .int .u64 a2vc0v.Ends, .bool a2vc0v.Odd, .int .i64 a2vc0v.Holes]) :: xblk b1 39 (enc_api_Pick a1) :: xblk ba2 53 ([.func (.func 20) #[] #[.pointer (some ⟨ba2vc0, 0, none⟩)]]) :: fs) w := hC
           exact ⟨fun _ => does_pure (v := .int .i64 (a2vc0v.To.length : Int)) (by kernel_rfl) rfl hC, fun h => absurd h (by decide)⟩
         | 11, _, _ =>
          rcases st with _ | b98
          ·replace hC : St w0 Z (xblk ba2vc0 25 ([.slice Aa2vc0v_0 a2vc0v.To.length ca2vc0v_0, .int .u64 a2vc0v.Ends, .bool a2vc0v.Odd, .int .i64 a2vc0v.Holes]) :: xblk b1 39 (enc_api_Pick a1) :: xblk ba2 53 ([.func (.func 20) #[] #[.pointer (some ⟨ba2vc0, 0, none⟩)]]) :: fs) w := hC
           exact ⟨fun _ => does_pure (v := .bool (decide ((gt (gt a2vc0v.To t5) a1.Thread) < (a2vc0v.To.length : Int)))) (by kernel_rfl) rfl hC, fun h => absurd h (by decide)⟩
          ·replace hC : St w0 Z (xrow (some ⟨b98, 0, none⟩) 1 5 1 (([(IntKind.u8.wrap (gt (gt a2vc0v.To t5) a1.Thread))] : List Int).flatMap (encI .u8)) :: xblk ba2vc0 25 ([.slice Aa2vc0v_0 a2vc0v.To.length ca2vc0v_0, .int .u64 a2vc0v.Ends, .bool a2vc0v.Odd, .int .i64 a2vc0v.Holes]) :: xblk b1 39 (enc_api_Pick a1) :: xblk ba2 53 ([.func (.func 20) #[] #[.pointer (some ⟨ba2vc0, 0, none⟩)]]) :: fs) w := hC
           exact ⟨fun _ => does_pure (v := .bool (decide ((gt (gt a2vc0v.To t5) a1.Thread) < (a2vc0v.To.length : Int)))) (by kernel_rfl) rfl hC, fun h => absurd h (by decide)⟩
         | 12, _, _ =>
          rcases st with _ | b98
          ·replace hC : St w0 Z (xblk ba2vc0 25 ([.slice Aa2vc0v_0 a2vc0v.To.length ca2vc0v_0, .int .u64 a2vc0v.Ends, .bool a2vc0v.Odd, .int .i64 a2vc0v.Holes]) :: xblk b1 39 (enc_api_Pick a1) :: xblk ba2 53 ([.func (.func 20) #[] #[.pointer (some ⟨ba2vc0, 0, none⟩)]]) :: fs) w := hC
           exact ⟨fun _ => does_pure (v := .bool (decide ((gt (gt a2vc0v.To t5) a1.Thread) < (a2vc0v.To.length : Int)))) (by kernel_rfl) rfl hC, fun h => absurd h (by decide)⟩
          ·replace hC : St w0 Z (xrow (some ⟨b98, 0, none⟩) 1 5 1 (([(IntKind.u8.wrap (gt (gt a2vc0v.To t5) a1.Thread))] : List Int).flatMap (encI .u8)) :: xblk ba2vc0 25 ([.slice Aa2vc0v_0 a2vc0v.To.length ca2vc0v_0, .int .u64 a2vc0v.Ends, .bool a2vc0v.Odd, .int .i64 a2vc0v.Holes]) :: xblk b1 39 (enc_api_Pick a1) :: xblk ba2 53 ([.func (.func 20) #[] #[.pointer (some ⟨ba2vc0, 0, none⟩)]]) :: fs) w := hC
           exact ⟨fun _ => does_pure (v := .bool (decide ((gt (gt a2vc0v.To t5) a1.Thread) < (a2vc0v.To.length : Int)))) (by kernel_rfl) rfl hC, fun h => absurd h (by decide)⟩
         | 13, _, _ =>
          rcases st with _ | b98
          ·exact absurd hr (Nat.not_le_of_gt (Nat.le_of_ble_eq_true rfl))
          ·replace hC : St w0 Z (xrow (some ⟨b98, 0, none⟩) 1 5 1 (([(IntKind.u8.wrap (gt (gt a2vc0v.To t5) a1.Thread))] : List Int).flatMap (encI .u8)) :: xblk ba2vc0 25 ([.slice Aa2vc0v_0 a2vc0v.To.length ca2vc0v_0, .int .u64 a2vc0v.Ends, .bool a2vc0v.Odd, .int .i64 a2vc0v.Holes]) :: xblk b1 39 (enc_api_Pick a1) :: xblk ba2 53 ([.func (.func 20) #[] #[.pointer (some ⟨ba2vc0, 0, none⟩)]]) :: fs) w := hC
           exact ⟨fun _ => does_pure (v := .string (ofBytes ([(IntKind.u8.wrap (gt (gt a2vc0v.To t5) a1.Thread))] : List Int))) (by kernel_rfl) rfl hC, fun h => absurd h (by decide)⟩
         | 14, _, _ =>
          rcases st with _ | b98
          ·exact absurd hr (Nat.not_le_of_gt (Nat.le_of_ble_eq_true rfl))
          ·replace hC : St w0 Z (xrow (some ⟨b98, 0, none⟩) 1 5 1 (([(IntKind.u8.wrap (gt (gt a2vc0v.To t5) a1.Thread))] : List Int).flatMap (encI .u8)) :: xblk ba2vc0 25 ([.slice Aa2vc0v_0 a2vc0v.To.length ca2vc0v_0, .int .u64 a2vc0v.Ends, .bool a2vc0v.Odd, .int .i64 a2vc0v.Holes]) :: xblk b1 39 (enc_api_Pick a1) :: xblk ba2 53 ([.func (.func 20) #[] #[.pointer (some ⟨ba2vc0, 0, none⟩)]]) :: fs) w := hC
           exact ⟨fun _ => does_pure (v := .bool (decide ((gt (gt a2vc0v.To t5) a1.Thread) < (a2vc0v.To.length : Int)))) (by kernel_rfl) rfl hC, fun h => absurd h (by decide)⟩
         | i + 15, hi, _ => exact absurd hi (by omega)
        ·intro k hk st w hC hr
         match k, hk with
         | 0, _ =>
          rcases st with _ | b98
          ·replace hC : St w0 Z (xblk ba2vc0 25 ([.slice Aa2vc0v_0 a2vc0v.To.length ca2vc0v_0, .int .u64 a2vc0v.Ends, .bool a2vc0v.Odd, .int .i64 a2vc0v.Holes]) :: xblk b1 39 (enc_api_Pick a1) :: xblk ba2 53 ([.func (.func 20) #[] #[.pointer (some ⟨ba2vc0, 0, none⟩)]]) :: fs) w := hC
           refine does_lit (t := 55) (e := 5) (sz := 1) (n := 1) (parts := #[(0, (.tmp 51))]) (vs := [(0, .int .u8 (IntKind.u8.wrap (gt (gt a2vc0v.To t5) a1.Thread)))]) (z := zeroOf Try.prog 5) (cs' := ([(IntKind.u8.wrap (gt (gt a2vc0v.To t5) a1.Thread))] : List Int).flatMap (encI .u8)) hC (by kernel_rfl) (by kernel_rfl) (by kernel_rfl) (by kernel_rfl) (by decide) (by decide) (by kernel_rfl) rfl (Parts.cons (c := [.int .u8 (IntKind.u8.wrap (gt (gt a2vc0v.To t5) a1.Thread))]) (by kernel_rfl) rfl Parts.nil) rfl ?_
           intro b98 w2 h2
           refine ⟨some b98, rfl, ?_, .inr rfl, h2⟩
           intro j hj
           match j, hj with
           | 0, _ => exact rfl
           | 1, _ => exact rfl
           | 2, hj => exact absurd hj (by decide)
           | 3, hj => exact absurd hj (by decide)
           | 4, _ => exact rfl
           | 5, _ => exact rfl
           | 6, _ => exact rfl
           | 7, _ => exact rfl
           | 8, _ => exact rfl
           | 9, _ => exact rfl
           | 10, _ => exact rfl
           | 11, _ => exact rfl
           | 12, _ => exact rfl
           | 13, hj => exact absurd hj (by decide)
           | 14, hj => exact absurd hj (by decide)
           | j + 15, _ => exact rfl
          ·exact absurd hr (Nat.ne_of_beq_eq_false rfl)
         | k + 1, hk => exact absurd hk (by simp)
        intro st105 w102 hS103 hr104
        rcases st105 with _ | b98
        ·exact absurd hr104 (Nat.not_le_of_gt (Nat.le_of_ble_eq_true rfl))
        replace hS103 : St w0 Z (xrow (some ⟨b98, 0, none⟩) 1 5 1 (([(IntKind.u8.wrap (gt (gt a2vc0v.To t5) a1.Thread))] : List Int).flatMap (encI .u8)) :: xblk ba2vc0 25 ([.slice Aa2vc0v_0 a2vc0v.To.length ca2vc0v_0, .int .u64 a2vc0v.Ends, .bool a2vc0v.Odd, .int .i64 a2vc0v.Holes]) :: xblk b1 39 (enc_api_Pick a1) :: xblk ba2 53 ([.func (.func 20) #[] #[.pointer (some ⟨ba2vc0, 0, none⟩)]]) :: fs) w102 := hS103
        have hS106 := hS103.drop
        have hS107 := hS106.pick1
        have hS108 := hS107.drop
        have hS109 := hS108.pick1
        refine runs_ret (fn := Try.f22) (v := .tuple #[.string (ofBytes ([(IntKind.u8.wrap (gt (gt a2vc0v.To t5) a1.Thread))] : List Int)), .bool (decide ((gt (gt a2vc0v.To t5) a1.Thread) < (a2vc0v.To.length : Int)))]) Try.func22 (by kernel_rfl) ?_
        have hr110 := (Option.some.inj hp101)
        cases hr110
        exact hR _ _ ⟨rfl, hS109⟩
       ·skip
        have hp111 := ite_f hp91 h100
        refine r_drawnH (S := Option Nat) (rank := (fun st => match st with | none => 0 | some b98 => 1)) (C := (fun st w' => match st with | none => St w0 Z (xblk ba2vc0 25 ([.slice Aa2vc0v_0 a2vc0v.To.length ca2vc0v_0, .int .u64 a2vc0v.Ends, .bool a2vc0v.Odd, .int .i64 a2vc0v.Holes]) :: xblk b1 39 (enc_api_Pick a1) :: xblk ba2 53 ([.func (.func 20) #[] #[.pointer (some ⟨ba2vc0, 0, none⟩)]]) :: fs) w' | some b98 => St w0 Z (xrow (some ⟨b98, 0, none⟩) 1 5 1 (([(IntKind.u8.wrap (gt (gt a2vc0v.To t5) a1.Thread))] : List Int).flatMap (encI .u8)) :: xblk ba2vc0 25 ([.slice Aa2vc0v_0 a2vc0v.To.length ca2vc0v_0, .int .u64 a2vc0v.Ends, .bool a2vc0v.Odd, .int .i64 a2vc0v.Holes]) :: xblk b1 39 (enc_api_Pick a1) :: xblk ba2 53 ([.func (.func 20) #[] #[.pointer (some ⟨ba2vc0, 0, none⟩)]]) :: fs) w')) (v := (fun st => match st with | none => [.int .i64 (gt (gt a2vc0v.To t5) a1.Thread), .int .u8 (IntKind.u8.wrap (gt (gt a2vc0v.To t5) a1.Thread)), undef, undef, .int .i64 (gt (gt a2vc0v.To t5) a1.Thread), .bool (decide ((gt (gt a2vc0v.To t5) a1.Thread) ≥ 0)), .bool false, undef, undef, undef, undef, undef, .bool false, undef, undef] | some b98 => [.int .i64 (gt (gt a2vc0v.To t5) a1.Thread), .int .u8 (IntKind.u8.wrap (gt (gt a2vc0v.To t5) a1.Thread)), .slice (some ⟨b98, 0, none⟩) ([(IntKind.u8.wrap (gt (gt a2vc0v.To t5) a1.Thread))] : List Int).length 1, .string (ofBytes ([(IntKind.u8.wrap (gt (gt a2vc0v.To t5) a1.Thread))] : List Int)), .int .i64 (gt (gt a2vc0v.To t5) a1.Thread), .bool (decide ((gt (gt a2vc0v.To t5) a1.Thread) ≥ 0)), .bool false, undef, undef, undef, undef, undef, .bool false, .string (ofBytes ([(IntKind.u8.wrap (gt (gt a2vc0v.To t5) a1.Thread))] : List Int)), .bool false])) (c := (cd22 [1, 1, 1, 1, 0])) (id := 5) none 0 15 [2] [0, 0, 0, 1, 0, 0, 0, 0, 0, 0, 0, 0, 0, 1, 1] [1, 0, 1, 1, 1, 1, 1, 1, 1, 1, 1, 1, 1, 1, 1] [] [true, true, true, true, true, true, true, false, false, false, false, false, true, true, true] (by kernel_rfl) (by kernel_rfl) (by kernel_rfl) (by kernel_rfl) (by kernel_rfl) (by kernel_rfl) (by kernel_rfl) (by kernel_rfl) (by kernel_rfl) rfl hS97.drew ?_ ?_ (fun k hk => match k, hk with | 0, _ => rfl | k + 1, hk => absurd hk (by simp)) ?_ ?_ ?_
        ·intro st w hC
         rcases st with _ | b98
         ·exact Nat.le_of_ble_eq_true rfl
         ·exact Nat.le_of_ble_eq_true rfl
        ·intro i hi st w hC hr
         match i, hi with
         | 0, _ => (show _ = _; kernel_rfl)
         | 1, _ => (show _ = _; kernel_rfl)
         | 2, _ => (show _ = _; kernel_rfl)
         | 3, _ => (show _ = _; kernel_rfl)
         | 4, _ => (show _ = _; kernel_rfl)
         | 5, _ => (show _ = _; kernel_rfl)
         | 6, _ => (show _ = _; kernel_rfl)
         | 7, _ =>
          rcases st with _ | b98
          ·(show _ = _; kernel_rfl)
          ·(show _ = _; kernel_rfl)
         | 8, _ =>
          rcases st with _ | b98
          ·(show _ = _; kernel_rfl)
          ·(show _ = _; kernel_rfl)
         | 9, _ =>
          rcases st with _ | b98
          ·(show _ = _; kernel_rfl)
          ·(show _ = _; kernel_rfl)
         | 10, _ =>
          rcases st with _ | b98
          ·(show _ = _; kernel_rfl)
          ·(show _ = _; kernel_rfl)
         | 11, _ =>
          rcases st with _ | b98
          ·(show _ = _; kernel_rfl)
          ·(show _ = _; kernel_rfl)
         | 12, _ => (show _ = _; kernel_rfl)
         | 13, _ => (show _ = _; kernel_rfl)
         | 14, _ => (show _ = _; kernel_rfl)
         | i + 15, hi => exact absurd hi (by omega)
        ·intro i hi he st w hC hr hu
         match i, hi, he with
         | 0, _, _ =>
          rcases st with _ | b98
          ·replace hC : St w0 Z (xblk ba2vc0 25 ([.slice Aa2vc0v_0 a2vc0v.To.length ca2vc0v_0, .int .u64 a2vc0v.Ends, .bool a2vc0v.Odd, .int .i64 a2vc0v.Holes]) :: xblk b1 39 (enc_api_Pick a1) :: xblk ba2 53 ([.func (.func 20) #[] #[.pointer (some ⟨ba2vc0, 0, none⟩)]]) :: fs) w := hC
           exact ⟨fun _ => does_pure (v := .int .i64 (gt (gt a2vc0v.To t5) a1.Thread)) (by kernel_rfl) rfl hC, fun h => absurd h (by decide)⟩
          ·replace hC : St w0 Z (xrow (some ⟨b98, 0, none⟩) 1 5 1 (([(IntKind.u8.wrap (gt (gt a2vc0v.To t5) a1.Thread))] : List Int).flatMap (encI .u8)) :: xblk ba2vc0 25 ([.slice Aa2vc0v_0 a2vc0v.To.length ca2vc0v_0, .int .u64 a2vc0v.Ends, .bool a2vc0v.Odd, .int .i64 a2vc0v.Holes]) :: xblk b1 39 (enc_api_Pick a1) :: xblk ba2 53 ([.func (.func 20) #[] #[.pointer (some ⟨ba2vc0, 0, none⟩)]]) :: fs) w := hC
           exact ⟨fun _ => does_pure (v := .int .i64 (gt (gt a2vc0v.To t5) a1.Thread)) (by kernel_rfl) rfl hC, fun h => absurd h (by decide)⟩
         | 1, _, _ =>
          rcases st with _ | b98
          ·replace hC : St w0 Z (xblk ba2vc0 25 ([.slice Aa2vc0v_0 a2vc0v.To.length ca2vc0v_0, .int .u64 a2vc0v.Ends, .bool a2vc0v.Odd, .int .i64 a2vc0v.Holes]) :: xblk b1 39 (enc_api_Pick a1) :: xblk ba2 53 ([.func (.func 20) #[] #[.pointer (some ⟨ba2vc0, 0, none⟩)]]) :: fs) w := hC
           exact ⟨fun _ => does_pure (v := .int .u8 (IntKind.u8.wrap (gt (gt a2vc0v.To t5) a1.Thread))) (by kernel_rfl) rfl hC, fun h => absurd h (by decide)⟩
          ·exact absurd hu (Nat.not_le_of_gt (Nat.le_of_ble_eq_true rfl))
         | 2, _, he => exact absurd he (by decide)
         | 3, _, _ =>
          rcases st with _ | b98
          ·exact absurd hr (Nat.not_le_of_gt (Nat.le_of_ble_eq_true rfl))
          ·replace hC : St w0 Z (xrow (some ⟨b98, 0, none⟩) 1 5 1 (([(IntKind.u8.wrap (gt (gt a2vc0v.To t5) a1.Thread))] : List Int).flatMap (encI .u8)) :: xblk ba2vc0 25 ([.slice Aa2vc0v_0 a2vc0v.To.length ca2vc0v_0, .int .u64 a2vc0v.Ends, .bool a2vc0v.Odd, .int .i64 a2vc0v.Holes]) :: xblk b1 39 (enc_api_Pick a1) :: xblk ba2 53 ([.func (.func 20) #[] #[.pointer (some ⟨ba2vc0, 0, none⟩)]]) :: fs) w := hC
           exact ⟨fun _ => does_run (x_bytesStr (src := 55) (dst := 9) (x := (.tmp 52)) (e := 5) (A := (some ⟨b98, 0, none⟩)) (c := 1) (by kernel_rfl) (src_row (hC.row 0 rfl) (by omega) (len_encI .u8)) (by kernel_rfl) (by kernel_rfl) (by kernel_rfl) (by kernel_rfl)) rfl hC, fun h => absurd h (by decide)⟩
         | 4, _, _ =>
          rcases st with _ | b98
          ·replace hC : St w0 Z (xblk ba2vc0 25 ([.slice Aa2vc0v_0 a2vc0v.To.length ca2vc0v_0, .int .u64 a2vc0v.Ends, .bool a2vc0v.Odd, .int .i64 a2vc0v.Holes]) :: xblk b1 39 (enc_api_Pick a1) :: xblk ba2 53 ([.func (.func 20) #[] #[.pointer (some ⟨ba2vc0, 0, none⟩)]]) :: fs) w := hC
           exact ⟨fun _ => does_pure (v := .int .i64 (gt (gt a2vc0v.To t5) a1.Thread)) (by kernel_rfl) rfl hC, fun h => absurd h (by decide)⟩
          ·replace hC : St w0 Z (xrow (some ⟨b98, 0, none⟩) 1 5 1 (([(IntKind.u8.wrap (gt (gt a2vc0v.To t5) a1.Thread))] : List Int).flatMap (encI .u8)) :: xblk ba2vc0 25 ([.slice Aa2vc0v_0 a2vc0v.To.length ca2vc0v_0, .int .u64 a2vc0v.Ends, .bool a2vc0v.Odd, .int .i64 a2vc0v.Holes]) :: xblk b1 39 (enc_api_Pick a1) :: xblk ba2 53 ([.func (.func 20) #[] #[.pointer (some ⟨ba2vc0, 0, none⟩)]]) :: fs) w := hC
           exact ⟨fun _ => does_pure (v := .int .i64 (gt (gt a2vc0v.To t5) a1.Thread)) (by kernel_rfl) rfl hC, fun h => absurd h (by decide)⟩
         | 5, _, _ =>
          rcases st with _ | b98
          ·replace hC : St w0 Z (xblk ba2vc0 25 ([.slice Aa2vc0v_0 a2vc0v.To.length ca2vc0v_0, .int .u64 a2vc0v.Ends, .bool a2vc0v.Odd, .int .i64 a2vc0v.Holes]) :: xblk b1 39 (enc_api_Pick a1) :: xblk ba2 53 ([.func (.func 20) #[] #[.pointer (some ⟨ba2vc0, 0, none⟩)]]) :: fs) w := hC
           exact ⟨fun _ => does_pure (v := .bool (decide ((gt (gt a2vc0v.To t5) a1.Thread) ≥ 0))) (by kernel_rfl) rfl hC, fun h => absurd h (by decide)⟩
          ·replace hC : St w0 Z (xrow (some ⟨b98, 0, none⟩) 1 5 1 (([(IntKind.u8.wrap (gt (gt a2vc0v.To t5) a1.Thread))] : List Int).flatMap (encI .u8)) :: xblk ba2vc0 25 ([.slice Aa2vc0v_0 a2vc0v.To.length ca2vc0v_0, .int .u64 a2vc0v.Ends, .bool a2vc0v.Odd, .int .i64 a2vc0v.Holes]) :: xblk b1 39 (enc_api_Pick a1) :: xblk ba2 53 ([.func (.func 20) #[] #[.pointer (some ⟨ba2vc0, 0, none⟩)]]) :: fs) w := hC
           exact ⟨fun _ => does_pure (v := .bool (decide ((gt (gt a2vc0v.To t5) a1.Thread) ≥ 0))) (by kernel_rfl) rfl hC, fun h => absurd h (by decide)⟩
         | 6, _, _ =>
          rcases st with _ | b98
          ·replace hC : St w0 Z (xblk ba2vc0 25 ([.slice Aa2vc0v_0 a2vc0v.To.length ca2vc0v_0, .int .u64 a2vc0v.Ends, .bool a2vc0v.Odd, .int .i64 a2vc0v.Holes]) :: xblk b1 39 (enc_api_Pick a1) :: xblk ba2 53 ([.func (.func 20) #[] #[.pointer (some ⟨ba2vc0, 0, none⟩)]]) :: fs) w := hC
           exact ⟨fun _ => does_pure (v := .bool (decide ((gt (gt a2vc0v.To t5) a1.Thread) ≥ 0))) (by kernel_rfl) (congrArg Value.bool h100) hC, fun h => absurd h (by decide)⟩
          ·replace hC : St w0 Z (xrow (some ⟨b98, 0, none⟩) 1 5 1 (([(IntKind.u8.wrap (gt (gt a2vc0v.To t5) a1.Thread))] : List Int).flatMap (encI .u8)) :: xblk ba2vc0 25 ([.slice Aa2vc0v_0 a2vc0v.To.length ca2vc0v_0, .int .u64 a2vc0v.Ends, .bool a2vc0v.Odd, .int .i64 a2vc0v.Holes]) :: xblk b1 39 (enc_api_Pick a1) :: xblk ba2 53 ([.func (.func 20) #[] #[.pointer (some ⟨ba2vc0, 0, none⟩)]]) :: fs) w := hC
           exact ⟨fun _ => does_pure (v := .bool (decide ((gt (gt a2vc0v.To t5) a1.Thread) ≥ 0))) (by kernel_rfl) (congrArg Value.bool h100) hC, fun h => absurd h (by decide)⟩
         | 7, _, _ => exact ⟨fun h => absurd h (by decide), fun _ => by rcases st with _ | b98 <;> rfl⟩
         | 8, _, _ => exact ⟨fun h => absurd h (by decide), fun _ => by rcases st with _ | b98 <;> rfl⟩
         | 9, _, _ => exact ⟨fun h => absurd h (by decide), fun _ => by rcases st with _ | b98 <;> rfl⟩
         | 10, _, _ => exact ⟨fun h => absurd h (by decide), fun _ => by rcases st with _ | b98 <;> rfl⟩
         | 11, _, _ => exact ⟨fun h => absurd h (by decide), fun _ => by rcases st with _ | b98 <;> rfl⟩
         | 12, _, _ =>
          rcases st with _ | b98
          ·replace hC : St w0 Z (xblk ba2vc0 25 ([.slice Aa2vc0v_0 a2vc0v.To.length ca2vc0v_0, .int .u64 a2vc0v.Ends, .bool a2vc0v.Odd, .int .i64 a2vc0v.Holes]) :: xblk b1 39 (enc_api_Pick a1) :: xblk ba2 53 ([.func (.func 20) #[] #[.pointer (some ⟨ba2vc0, 0, none⟩)]]) :: fs) w := hC
           exact ⟨fun _ => does_pure (v := .bool false) (by kernel_rfl) rfl hC, fun h => absurd h (by decide)⟩
          ·replace hC : St w0 Z (xrow (some ⟨b98, 0, none⟩) 1 5 1 (([(IntKind.u8.wrap (gt (gt a2vc0v.To t5) a1.Thread))] : List Int).flatMap (encI .u8)) :: xblk ba2vc0 25 ([.slice Aa2vc0v_0 a2vc0v.To.length ca2vc0v_0, .int .u64 a2vc0v.Ends, .bool a2vc0v.Odd, .int .i64 a2vc0v.Holes]) :: xblk b1 39 (enc_api_Pick a1) :: xblk ba2 53 ([.func (.func 20) #[] #[.pointer (some ⟨ba2vc0, 0, none⟩)]]) :: fs) w := hC
           exact ⟨fun _ => does_pure (v := .bool false) (by kernel_rfl) rfl hC, fun h => absurd h (by decide)⟩
         | 13, _, _ =>
          rcases st with _ | b98
          ·exact absurd hr (Nat.not_le_of_gt (Nat.le_of_ble_eq_true rfl))
          ·replace hC : St w0 Z (xrow (some ⟨b98, 0, none⟩) 1 5 1 (([(IntKind.u8.wrap (gt (gt a2vc0v.To t5) a1.Thread))] : List Int).flatMap (encI .u8)) :: xblk ba2vc0 25 ([.slice Aa2vc0v_0 a2vc0v.To.length ca2vc0v_0, .int .u64 a2vc0v.Ends, .bool a2vc0v.Odd, .int .i64 a2vc0v.Holes]) :: xblk b1 39 (enc_api_Pick a1) :: xblk ba2 53 ([.func (.func 20) #[] #[.pointer (some ⟨ba2vc0, 0, none⟩)]]) :: fs) w := hC
           exact ⟨fun _ => does_pure (v := .string (ofBytes ([(IntKind.u8.wrap (gt (gt a2vc0v.To t5) a1.Thread))] : List Int))) (by kernel_rfl) rfl hC, fun h => absurd h (by decide)⟩
         | 14, _, _ =>
          rcases st with _ | b98
          ·exact absurd hr (Nat.not_le_of_gt (Nat.le_of_ble_eq_true rfl))
          ·replace hC : St w0 Z (xrow (some ⟨b98, 0, none⟩) 1 5 1 (([(IntKind.u8.wrap (gt (gt a2vc0v.To t5) a1.Thread))] : List Int).flatMap (encI .u8)) :: xblk ba2vc0 25 ([.slice Aa2vc0v_0 a2vc0v.To.length ca2vc0v_0, .int .u64 a2vc0v.Ends, .bool a2vc0v.Odd, .int .i64 a2vc0v.Holes]) :: xblk b1 39 (enc_api_Pick a1) :: xblk ba2 53 ([.func (.func 20) #[] #[.pointer (some ⟨ba2vc0, 0, none⟩)]]) :: fs) w := hC
           exact ⟨fun _ => does_pure (v := .bool false) (by kernel_rfl) rfl hC, fun h => absurd h (by decide)⟩
         | i + 15, hi, _ => exact absurd hi (by omega)
        ·intro k hk st w hC hr
         match k, hk with
         | 0, _ =>
          rcases st with _ | b98
          ·replace hC : St w0 Z (xblk ba2vc0 25 ([.slice Aa2vc0v_0 a2vc0v.To.length ca2vc0v_0, .int .u64 a2vc0v.Ends, .bool a2vc0v.Odd, .int .i64 a2vc0v.Holes]) :: xblk b1 39 (enc_api_Pick a1) :: xblk ba2 53 ([.func (.func 20) #[] #[.pointer (some ⟨ba2vc0, 0, none⟩)]]) :: fs) w := hC
           refine does_lit (t := 55) (e := 5) (sz := 1) (n := 1) (parts := #[(0, (.tmp 51))]) (vs := [(0, .int .u8 (IntKind.u8.wrap (gt (gt a2vc0v.To t5) a1.Thread)))]) (z := zeroOf Try.prog 5) (cs' := ([(IntKind.u8.wrap (gt (gt a2vc0v.To t5) a1.Thread))] : List Int).flatMap (encI .u8)) hC (by kernel_rfl) (by kernel_rfl) (by kernel_rfl) (by kernel_rfl) (by decide) (by decide) (by kernel_rfl) rfl (Parts.cons (c := [.int .u8 (IntKind.u8.wrap (gt (gt a2vc0v.To t5) a1.Thread))]) (by kernel_rfl) rfl Parts.nil) rfl ?_
           intro b98 w2 h2
           refine ⟨some b98, rfl, ?_, .inr rfl, h2⟩
           intro j hj
           match j, hj with
           | 0, _ => exact rfl
           | 1, _ => exact rfl
           | 2, hj => exact absurd hj (by decide)
           | 3, hj => exact absurd hj (by decide)
           | 4, _ => exact rfl
           | 5, _ => exact rfl
           | 6, _ => exact rfl
           | 7, _ => exact rfl
           | 8, _ => exact rfl
           | 9, _ => exact rfl
           | 10, _ => exact rfl
           | 11, _ => exact rfl
           | 12, _ => exact rfl
           | 13, hj => exact absurd hj (by decide)
           | 14, hj => exact absurd hj (by decide)
           | j + 15, _ => exact rfl
          ·exact absurd hr (Nat.ne_of_beq_eq_false rfl)
         | k + 1, hk => exact absurd hk (by simp)
        intro st115 w112 hS113 hr114
        rcases st115 with _ | b98
        ·exact absurd hr114 (Nat.not_le_of_gt (Nat.le_of_ble_eq_true rfl))
        replace hS113 : St w0 Z (xrow (some ⟨b98, 0, none⟩) 1 5 1 (([(IntKind.u8.wrap (gt (gt a2vc0v.To t5) a1.Thread))] : List Int).flatMap (encI .u8)) :: xblk ba2vc0 25 ([.slice Aa2vc0v_0 a2vc0v.To.length ca2vc0v_0, .int .u64 a2vc0v.Ends, .bool a2vc0v.Odd, .int .i64 a2vc0v.Holes]) :: xblk b1 39 (enc_api_Pick a1) :: xblk ba2 53 ([.func (.func 20) #[] #[.pointer (some ⟨ba2vc0, 0, none⟩)]]) :: fs) w112 := hS113
        have hS116 := hS113.drop
        have hS117 := hS116.pick1
        have hS118 := hS117.drop
        have hS119 := hS118.pick1
        refine runs_ret (fn := Try.f22) (v := .tuple #[.string (ofBytes ([(IntKind.u8.wrap (gt (gt a2vc0v.To t5) a1.Thread))] : List Int)), .bool false]) Try.func22 (by kernel_rfl) ?_
        have hr120 := (Option.some.inj hp111)
        cases hr120
        exact hR _ _ ⟨rfl, hS119⟩

noncomputable def cd24 (p : List Nat) : Code := sub (bodyOf Try.f24) p
def script_step.f (a0_0 : ByteArray) (a0_1 : Bool) (a0_1c0vc0v : weirlaw15_Graph) (a0_2 : Bool) (a0_3 : Bool) (a1 : ByteArray) (a2 : api_Pick) : Option (ByteArray × Bool) :=
  (if a0_2 = true then (weirlaw15_Graph__Machine_3.f a1 a2 (⟨a0_1c0vc0v.To, a0_1c0vc0v.Ends, a0_1c0vc0v.Odd, a0_1c0vc0v.Holes⟩ : weirlaw15_Graph) >>= (fun (t14, t15) => some ((t14, t15)))) else some (((⟨#[]⟩ : ByteArray), false)))
set_option maxHeartbeats 16000000 in
theorem script_step.ok (a0_0 : ByteArray) (a0_1 : Bool) (a0_1c0vc0v : weirlaw15_Graph) (a0_2 : Bool) (a0_3 : Bool) (a1 : ByteArray) (a2 : api_Pick) (ba0_1c0 : Nat) (ba0_1c0vc0 : Nat) (Aa0_1c0vc0v_0 : Option Addr) (ca0_1c0vc0v_0 : Nat) {w0 : World} {Z : Zm} {fs : List XObj} {w : World} (hS0 : St w0 Z (xblk ba0_1c0 53 ([.func (.func 20) #[] #[.pointer (some ⟨ba0_1c0vc0, 0, none⟩)]]) :: xblk ba0_1c0vc0 25 ([.slice Aa0_1c0vc0v_0 a0_1c0vc0v.To.length ca0_1c0vc0v_0, .int .u64 a0_1c0vc0v.Ends, .bool a0_1c0vc0v.Odd, .int .i64 a0_1c0vc0v.Holes]) :: fs) w) (ha0_1c0vc0v_0 : SlZ (repL (flat (encI .i64)) 1) 1 Z Aa0_1c0vc0v_0 ca0_1c0vc0v_0 a0_1c0vc0v.To) {q0 : ByteArray} {q1 : Bool} (hp0 : script_step.f a0_0 a0_1 a0_1c0vc0v a0_2 a0_3 a1 a2 = some (q0, q1)) :
    Calls Try.prog 24 #[.agg #[.string a0_0, cond a0_1 (.func (.func 21) #[] #[.pointer (some ⟨ba0_1c0, 0, none⟩), .pointer (some ⟨ba0_1c0vc0, 0, none⟩)]) .nilFunc, cond a0_2 (.func (.func 22) #[] #[.pointer (some ⟨ba0_1c0, 0, none⟩), .pointer (some ⟨ba0_1c0vc0, 0, none⟩)]) .nilFunc, cond a0_3 (.func (.func 23) #[] #[.pointer (some ⟨ba0_1c0, 0, none⟩), .pointer (some ⟨ba0_1c0vc0, 0, none⟩)]) .nilFunc], .string a1, .agg (enc_api_Pick a2).toArray] w (fun e w' => e = .returned (.tuple #[.string q0, .bool q1]) ∧ St w0 Z (xblk ba0_1c0 53 ([.func (.func 20) #[] #[.pointer (some ⟨ba0_1c0vc0, 0, none⟩)]]) :: xblk ba0_1c0vc0 25 ([.slice Aa0_1c0vc0v_0 a0_1c0vc0v.To.length ca0_1c0vc0v_0, .int .u64 a0_1c0vc0v.Ends, .bool a0_1c0vc0v.Odd, .int .i64 a0_1c0vc0v.Holes]) :: fs) w') := by
  refine calls_abs ?_; intro R hR
  unfold script_step.f at hp0
  refine calls_of_runs (fn := Try.f24) (c := cd24 []) Try.func24 (by kernel_rfl) (al := [.agg #[.string a0_0, cond a0_1 (.func (.func 21) #[] #[.pointer (some ⟨ba0_1c0, 0, none⟩), .pointer (some ⟨ba0_1c0vc0, 0, none⟩)]) .nilFunc, cond a0_2 (.func (.func 22) #[] #[.pointer (some ⟨ba0_1c0, 0, none⟩), .pointer (some ⟨ba0_1c0vc0, 0, none⟩)]) .nilFunc, cond a0_3 (.func (.func 23) #[] #[.pointer (some ⟨ba0_1c0, 0, none⟩), .pointer (some ⟨ba0_1c0vc0, 0, none⟩)]) .nilFunc], .string a1, .agg (enc_api_Pick a2).toArray]) rfl (n := 15) rfl ?_
  refine sx_run 2 (todo' := [.inRegion (opsOf (cd24 [0])) [0, 1, 2, 3], .code (cd24 [1])]) (us := []) (by kernel_rfl) ?_
  refine r_box (c := (cd24 [0])) (i := 0) (d := (some 3)) (ty := 0) (x := (.tmp 0)) (v := .agg #[.string a0_0, cond a0_1 (.func (.func 21) #[] #[.pointer (some ⟨ba0_1c0, 0, none⟩), .pointer (some ⟨ba0_1c0vc0, 0, none⟩)]) .nilFunc, cond a0_2 (.func (.func 22) #[] #[.pointer (some ⟨ba0_1c0, 0, none⟩), .pointer (some ⟨ba0_1c0vc0, 0, none⟩)]) .nilFunc, cond a0_3 (.func (.func 23) #[] #[.pointer (some ⟨ba0_1c0, 0, none⟩), .pointer (some ⟨ba0_1c0vc0, 0, none⟩)]) .nilFunc]) (t := 31) (cs := [.string a0_0, cond a0_1 (.func (.func 21) #[] #[.pointer (some ⟨ba0_1c0, 0, none⟩), .pointer (some ⟨ba0_1c0vc0, 0, none⟩)]) .nilFunc, cond a0_2 (.func (.func 22) #[] #[.pointer (some ⟨ba0_1c0, 0, none⟩), .pointer (some ⟨ba0_1c0vc0, 0, none⟩)]) .nilFunc, cond a0_3 (.func (.func 23) #[] #[.pointer (some ⟨ba0_1c0, 0, none⟩), .pointer (some ⟨ba0_1c0vc0, 0, none⟩)]) .nilFunc]) hS0 (by kernel_rfl) (by kernel_rfl) (by kernel_rfl) (by kernel_rfl) ?_
  intro b1 w2 hS3
  refine r_box (c := (cd24 [0])) (i := 1) (d := (some 5)) (ty := 0) (x := (.tmp 2)) (v := .agg (enc_api_Pick a2).toArray) (t := 39) (cs := enc_api_Pick a2) hS3 (by kernel_rfl) (by kernel_rfl) (by kernel_rfl) (by kernel_rfl) ?_
  intro b5 w6 hS7
  refine sx_run 7 (todo' := [.inRegion (opsOf (cd24 [1, 0, 0])) [1, 2], .code (cd24 [1, 0, 1]), .code (cd24 [1, 1])]) (us := [(6, .string (⟨#[]⟩ : ByteArray)), (7, .bool false), (8, .pointer (some ⟨b1, 2, none⟩))]) (by kernel_rfl) ?_
  refine r_load (c := (cd24 [1, 0, 0])) (i := 1) (d := (some 9)) (ty := 28) (t := 28) (x := (.tmp 8)) (p := ⟨b1, 2, none⟩) (v := cond a0_2 (.func (.func 22) #[] #[.pointer (some ⟨ba0_1c0, 0, none⟩), .pointer (some ⟨ba0_1c0vc0, 0, none⟩)]) .nilFunc) (by kernel_rfl) (by kernel_rfl) (by kernel_rfl) (loads_at 2 (hS7.blk 1 rfl) (by kernel_rfl) (by kernel_rfl)) ?_
  cases a0_2
  ·skip
   have hp9 := ite_f hp0 rfl
   refine sx_run 8 (todo' := [.code (cd24 [1, 0, 1, 0, 1]), .code (cd24 [1, 1])]) (us := [(10, .bool true), (6, .string (⟨#[]⟩ : ByteArray)), (7, .bool false)]) (by kernel_rfl) ?_
   have hS10 := hS7.drop
   have hS11 := hS10.drop
   refine runs_ret (fn := Try.f24) (v := .tuple #[.string (⟨#[]⟩ : ByteArray), .bool false]) Try.func24 (by kernel_rfl) ?_
   have hr12 := (Option.some.inj hp9)
   cases hr12
   exact hR _ _ ⟨rfl, hS11⟩
  ·skip
   have hp13 := ite_t hp0 rfl
   refine sx_run 7 (todo' := [.inRegion (opsOf (cd24 [1, 1, 0])) [1, 2, 3, 4, 5, 6, 7, 8], .code (cd24 [1, 1, 1])]) (us := [(10, .bool false), (11, .pointer (some ⟨b1, 2, none⟩))]) (by kernel_rfl) ?_
   refine r_load (c := (cd24 [1, 1, 0])) (i := 1) (d := (some 12)) (ty := 28) (t := 28) (x := (.tmp 11)) (p := ⟨b1, 2, none⟩) (v := .func (.func 22) #[] #[.pointer (some ⟨ba0_1c0, 0, none⟩), .pointer (some ⟨ba0_1c0vc0, 0, none⟩)]) (by kernel_rfl) (by kernel_rfl) (by kernel_rfl) (loads_at 2 (hS7.blk 1 rfl) (by kernel_rfl) (by kernel_rfl)) ?_
   refine sx_run 1 (todo' := [.inRegion (opsOf (cd24 [1, 1, 0])) [3, 4, 5, 6, 7, 8], .code (cd24 [1, 1, 1])]) (us := [(13, .string a1)]) (by kernel_rfl) ?_
   refine r_load (c := (cd24 [1, 1, 0])) (i := 3) (d := (some 14)) (ty := 39) (t := 39) (x := (.tmp 5)) (p := ⟨b5, 0, none⟩) (v := .agg (enc_api_Pick a2).toArray) (by kernel_rfl) (by kernel_rfl) (by kernel_rfl) (loads_agg (hS7.blk 0 rfl) (by kernel_rfl) (by kernel_rfl)) ?_
   obtain ⟨⟨t14, t15⟩, hr16, hp17⟩ := bind_some' hp13
   try dsimp only at hp17
   have hS19 := hS7.pick3
   have hS20 := hS19.pick3
   refine r_call1 (c := (cd24 [1, 1, 0])) (i := 4) (d := (some 15)) (g := 22) (args := #[.string a1, .agg (enc_api_Pick a2).toArray, .pointer (some ⟨ba0_1c0, 0, none⟩), .pointer (some ⟨ba0_1c0vc0, 0, none⟩)]) (by kernel_rfl) (by kernel_rfl) (by kernel_rfl) (by kernel_rfl) (weirlaw15_Graph__Machine_3.ok a1 a2 (⟨a0_1c0vc0v.To, a0_1c0vc0v.Ends, a0_1c0vc0v.Odd, a0_1c0vc0v.Holes⟩ : weirlaw15_Graph) ba0_1c0 ba0_1c0vc0 Aa0_1c0vc0v_0 ca0_1c0vc0v_0 hS20 ha0_1c0vc0v_0 hr16) ?_
   rintro _ w21 ⟨rfl, hS22⟩
   refine ⟨.tuple #[.string t14, .bool t15], rfl, ?_⟩
   refine sx_run 5 (todo' := [.code (cd24 [1, 1, 1])]) (us := [(16, .string t14), (17, .bool t15), (6, .string t14), (7, .bool t15)]) (by kernel_rfl) ?_
   have hS23 := hS22.pick2
   have hS24 := hS23.drop
   have hS25 := hS24.pick2
   have hS26 := hS25.drop
   refine runs_ret (fn := Try.f24) (v := .tuple #[.string t14, .bool t15]) Try.func24 (by kernel_rfl) ?_
   have hr27 := (Option.some.inj hp17)
   cases hr27
   exact hR _ _ ⟨rfl, hS26⟩

noncomputable def cd7 (p : List Nat) : Code := sub (bodyOf Try.f7) p
def script_Finish.l0 (a0_0 : ByteArray) (a0_1 : Bool) (a0_1c0vc0v : weirlaw15_Graph) (a0_2 : Bool) (a0_3 : Bool) (a2 : Int) (t19 : ByteArray) (t20 : List api_Pick) : Option (ByteArray × (List api_Pick)) :=
  (if (decide ((t20.length : Int) < a2)) = true then (((if a0_3 = true then (weirlaw15_Graph__Machine_4.f t19 (⟨a0_1c0vc0v.To, a0_1c0vc0v.Ends, a0_1c0vc0v.Odd, a0_1c0vc0v.Holes⟩ : weirlaw15_Graph) >>= (fun (t129, t130) => (if t130 = true then some (.inr ((t19, t20))) else some (.inl ())))) else some (.inl ())) : Option (Sum Unit (ByteArray × (List api_Pick)))) >>= (fun | .inl () => (if a0_1 = true then (weirlaw15_Graph__Machine_2.f t19 (⟨a0_1c0vc0v.To, a0_1c0vc0v.Ends, a0_1c0vc0v.Odd, a0_1c0vc0v.Holes⟩ : weirlaw15_Graph) >>= (fun t51 => (if ((t51.length : Int) == 0) = true then some ((t19, t20)) else (if 0 ≤ (0 : Int) ∧ (0 : Int) < (t51.length : Int) then (script_step.f a0_0 true (⟨a0_1c0vc0v.To, a0_1c0vc0v.Ends, a0_1c0vc0v.Odd, a0_1c0vc0v.Holes⟩ : weirlaw15_Graph) a0_2 a0_3 t19 (gt t51 (0 : Int)) >>= (fun (t78, t79) => (if (!t79) = true then some ((t19, t20)) else (if 0 ≤ (0 : Int) ∧ (0 : Int) < (t51.length : Int) then (if (t20.length + ([(gt t51 (0 : Int))] : List api_Pick).length) * 24 ≤ 140737488355328 then (script_Finish.l0 a0_0 a0_1 a0_1c0vc0v a0_2 a0_3 a2 t78 (t20 ++ ([(gt t51 (0 : Int))] : List api_Pick))) else none) else none)))) else none)))) else some ((t19, t20))) | .inr e => some e)) else some ((t19, t20)))
 partial_fixpoint
def script_Finish.f (a0_0 : ByteArray) (a0_1 : Bool) (a0_1c0vc0v : weirlaw15_Graph) (a0_2 : Bool) (a0_3 : Bool) (a1 : ByteArray) (a2 : Int) : Option ((List api_Pick) × ByteArray) :=
  (script_Finish.l0 a0_0 a0_1 a0_1c0vc0v a0_2 a0_3 a2 a1 [] >>= (fun (t8, t9) => some ((t9, t8))))
set_option maxHeartbeats 16000000 in
theorem script_Finish.ok (a0_0 : ByteArray) (a0_1 : Bool) (a0_1c0vc0v : weirlaw15_Graph) (a0_2 : Bool) (a0_3 : Bool) (a1 : ByteArray) (a2 : Int) (ba0_1c0 : Nat) (ba0_1c0vc0 : Nat) (Aa0_1c0vc0v_0 : Option Addr) (ca0_1c0vc0v_0 : Nat) {w0 : World} {Z : Zm} {fs : List XObj} {w : World} (hS0 : St w0 Z (xblk ba0_1c0 53 ([.func (.func 20) #[] #[.pointer (some ⟨ba0_1c0vc0, 0, none⟩)]]) :: xblk ba0_1c0vc0 25 ([.slice Aa0_1c0vc0v_0 a0_1c0vc0v.To.length ca0_1c0vc0v_0, .int .u64 a0_1c0vc0v.Ends, .bool a0_1c0vc0v.Odd, .int .i64 a0_1c0vc0v.Holes]) :: fs) w) (ha0_1c0vc0v_0 : SlZ (repL (flat (encI .i64)) 1) 1 Z Aa0_1c0vc0v_0 ca0_1c0vc0v_0 a0_1c0vc0v.To) {q0 : List api_Pick} {q1 : ByteArray} (hp0 : script_Finish.f a0_0 a0_1 a0_1c0vc0v a0_2 a0_3 a1 a2 = some (q0, q1)) :
    Calls Try.prog 7 #[.agg #[.string a0_0, cond a0_1 (.func (.func 21) #[] #[.pointer (some ⟨ba0_1c0, 0, none⟩), .pointer (some ⟨ba0_1c0vc0, 0, none⟩)]) .nilFunc, cond a0_2 (.func (.func 22) #[] #[.pointer (some ⟨ba0_1c0, 0, none⟩), .pointer (some ⟨ba0_1c0vc0, 0, none⟩)]) .nilFunc, cond a0_3 (.func (.func 23) #[] #[.pointer (some ⟨ba0_1c0, 0, none⟩), .pointer (some ⟨ba0_1c0vc0, 0, none⟩)]) .nilFunc], .string a1, .int .i64 a2] w (fun e w' => ∃ (QA0 : Option Addr) (Qc0 : Nat), e = .returned (.tuple #[.slice QA0 q0.length Qc0, .string q1]) ∧ St w0 Z (xrow QA0 Qc0 39 3 (q0.flatMap enc_api_Pick) :: xblk ba0_1c0 53 ([.func (.func 20) #[] #[.pointer (some ⟨ba0_1c0vc0, 0, none⟩)]]) :: xblk ba0_1c0vc0 25 ([.slice Aa0_1c0vc0v_0 a0_1c0vc0v.To.length ca0_1c0vc0v_0, .int .u64 a0_1c0vc0v.Ends, .bool a0_1c0vc0v.Odd, .int .i64 a0_1c0vc0v.Holes]) :: fs) w') := by
  refine calls_abs ?_; intro R hR
  unfold script_Finish.f at hp0
  refine calls_of_runs (fn := Try.f7) (c := cd7 []) Try.func7 (by kernel_rfl) (al := [.agg #[.string a0_0, cond a0_1 (.func (.func 21) #[] #[.pointer (some ⟨ba0_1c0, 0, none⟩), .pointer (some ⟨ba0_1c0vc0, 0, none⟩)]) .nilFunc, cond a0_2 (.func (.func 22) #[] #[.pointer (some ⟨ba0_1c0, 0, none⟩), .pointer (some ⟨ba0_1c0vc0, 0, none⟩)]) .nilFunc, cond a0_3 (.func (.func 23) #[] #[.pointer (some ⟨ba0_1c0, 0, none⟩), .pointer (some ⟨ba0_1c0vc0, 0, none⟩)]) .nilFunc], .string a1, .int .i64 a2]) rfl (n := 56) rfl ?_
  refine sx_run 2 (todo' := [.inRegion (opsOf (cd7 [0])) [0, 1, 2], .code (cd7 [1])]) (us := []) (by kernel_rfl) ?_
  refine r_box (c := (cd7 [0])) (i := 0) (d := (some 3)) (ty := 0) (x := (.tmp 0)) (v := .agg #[.string a0_0, cond a0_1 (.func (.func 21) #[] #[.pointer (some ⟨ba0_1c0, 0, none⟩), .pointer (some ⟨ba0_1c0vc0, 0, none⟩)]) .nilFunc, cond a0_2 (.func (.func 22) #[] #[.pointer (some ⟨ba0_1c0, 0, none⟩), .pointer (some ⟨ba0_1c0vc0, 0, none⟩)]) .nilFunc, cond a0_3 (.func (.func 23) #[] #[.pointer (some ⟨ba0_1c0, 0, none⟩), .pointer (some ⟨ba0_1c0vc0, 0, none⟩)]) .nilFunc]) (t := 31) (cs := [.string a0_0, cond a0_1 (.func (.func 21) #[] #[.pointer (some ⟨ba0_1c0, 0, none⟩), .pointer (some ⟨ba0_1c0vc0, 0, none⟩)]) .nilFunc, cond a0_2 (.func (.func 22) #[] #[.pointer (some ⟨ba0_1c0, 0, none⟩), .pointer (some ⟨ba0_1c0vc0, 0, none⟩)]) .nilFunc, cond a0_3 (.func (.func 23) #[] #[.pointer (some ⟨ba0_1c0, 0, none⟩), .pointer (some ⟨ba0_1c0vc0, 0, none⟩)]) .nilFunc]) hS0 (by kernel_rfl) (by kernel_rfl) (by kernel_rfl) (by kernel_rfl) ?_
  intro b1 w2 hS3
  refine sx_run 10 (todo' := [.code (cd7 [1, 1, 0, 0, 0]), .inLoop (cd7 [1, 1, 0, 0, 0]), .inBlock 0, .code (cd7 [1, 1, 1])]) (us := [(6, .slice none 0 0), (7, .string (⟨#[]⟩ : ByteArray)), (8, .slice none 0 0)]) (by kernel_rfl) ?_
  obtain ⟨v5, hv6, hp7⟩ := bind_some' hp0
  have J15 : ∀ (t8 : ByteArray) (t9 : List api_Pick) (he17 : (t8, t9) = v5) (l16 : List Value) (A10 : Option Addr) (c11 : Nat) (w13 : World) (hS14 : St w0 Z (xrow A10 c11 39 3 (t9.flatMap enc_api_Pick) :: xblk ba0_1c0 53 ([.func (.func 20) #[] #[.pointer (some ⟨ba0_1c0vc0, 0, none⟩)]]) :: xblk ba0_1c0vc0 25 ([.slice Aa0_1c0vc0v_0 a0_1c0vc0v.To.length ca0_1c0vc0v_0, .int .u64 a0_1c0vc0v.Ends, .bool a0_1c0vc0v.Odd, .int .i64 a0_1c0vc0v.Holes]) :: fs) w13), Runs Try.prog 7 [.code (cd7 [1, 1, 1])] (fill [none, some (.string t8), none, none, none, none, none, none, some (.slice A10 t9.length c11), none, none, none, none, none, none, none, none, none, none, none, none, none, none, none, none, none, none, none, none, none, none, none, none, none, none, none, none, none, none, none, none, none, none, none, none, none, none, none, none, none, none, none, none, none, none, none, none, none, none] l16) w13 R := by
   intro t8 t9 he17 l16 A10 c11 w13 hS14
   subst he17
   try dsimp only at hp7
   refine sx_run 7 (todo' := [.code (cd7 [1, 1, 1, 1])]) (us := [(57, .slice A10 t9.length c11), (58, .string t8), (6, .slice A10 t9.length c11), (7, .string t8)]) (by kernel_rfl) ?_
   refine runs_ret (fn := Try.f7) (v := .tuple #[.slice A10 t9.length c11, .string t8]) Try.func7 (by kernel_rfl) ?_
   have hr18 := (Option.some.inj hp7)
   cases hr18
   exact hR _ _ ⟨A10, c11, rfl, hS14⟩
  have L32 : ∀ (t19 : ByteArray) (t20 : List api_Pick) (e27 : (ByteArray × (List api_Pick))), script_Finish.l0 a0_0 a0_1 a0_1c0vc0v a0_2 a0_3 a2 t19 t20 = some e27 → e27 = v5 → ∀ (l26 : List Value) (A21 : Option Addr) (c22 : Nat) (w24 : World) (hS25 : St w0 Z (xblk b1 31 ([.string a0_0, cond a0_1 (.func (.func 21) #[] #[.pointer (some ⟨ba0_1c0, 0, none⟩), .pointer (some ⟨ba0_1c0vc0, 0, none⟩)]) .nilFunc, cond a0_2 (.func (.func 22) #[] #[.pointer (some ⟨ba0_1c0, 0, none⟩), .pointer (some ⟨ba0_1c0vc0, 0, none⟩)]) .nilFunc, cond a0_3 (.func (.func 23) #[] #[.pointer (some ⟨ba0_1c0, 0, none⟩), .pointer (some ⟨ba0_1c0vc0, 0, none⟩)]) .nilFunc]) :: xblk ba0_1c0 53 ([.func (.func 20) #[] #[.pointer (some ⟨ba0_1c0vc0, 0, none⟩)]]) :: xblk ba0_1c0vc0 25 ([.slice Aa0_1c0vc0v_0 a0_1c0vc0v.To.length ca0_1c0vc0v_0, .int .u64 a0_1c0vc0v.Ends, .bool a0_1c0vc0v.Odd, .int .i64 a0_1c0vc0v.Holes]) :: xrow A21 c22 39 3 (t20.flatMap enc_api_Pick) :: fs) w24), Runs Try.prog 7 [.code (cd7 [1, 1, 0, 0, 0]), .inLoop (cd7 [1, 1, 0, 0, 0]), .inBlock 0, .code (cd7 [1, 1, 1])] (fill [none, some (.string t19), some (.int .i64 a2), some (.pointer (some ⟨b1, 0, none⟩)), none, none, none, none, some (.slice A21 t20.length c22), none, none, none, none, none, none, none, none, none, none, none, none, none, none, none, none, none, none, none, none, none, none, none, none, none, none, none, none, none, none, none, none, none, none, none, none, none, none, none, none, none, none, none, none, none, none, none, none, none, none] l26) w24 R := by
   refine script_Finish.l0.partial_correctness a0_0 a0_1 a0_1c0vc0v a0_2 a0_3 a2 (fun t19 t20 e27 => e27 = v5 → ∀ (l26 : List Value) (A21 : Option Addr) (c22 : Nat) (w24 : World) (hS25 : St w0 Z (xblk b1 31 ([.string a0_0, cond a0_1 (.func (.func 21) #[] #[.pointer (some ⟨ba0_1c0, 0, none⟩), .pointer (some ⟨ba0_1c0vc0, 0, none⟩)]) .nilFunc, cond a0_2 (.func (.func 22) #[] #[.pointer (some ⟨ba0_1c0, 0, none⟩), .pointer (some ⟨ba0_1c0vc0, 0, none⟩)]) .nilFunc, cond a0_3 (.func (.func 23) #[] #[.pointer (some ⟨ba0_1c0, 0, none⟩), .pointer (some ⟨ba0_1c0vc0, 0, none⟩)]) .nilFunc]) :: xblk ba0_1c0 53 ([.func (.func 20) #[] #[.pointer (some ⟨ba0_1c0vc0, 0, none⟩)]]) :: xblk ba0_1c0vc0 25 ([.slice Aa0_1c0vc0v_0 a0_1c0vc0v.To.length ca0_1c0vc0v_0, .int .u64 a0_1c0vc0v.Ends, .bool a0_1c0vc0v.Odd, .int .i64 a0_1c0vc0v.Holes]) :: xrow A21 c22 39 3 (t20.flatMap enc_api_Pick) :: fs) w24), Runs Try.prog 7 [.code (cd7 [1, 1, 0, 0, 0]), .inLoop (cd7 [1, 1, 0, 0, 0]), .inBlock 0, .code (cd7 [1, 1, 1])] (fill [none, some (.string t19), some (.int .i64 a2), some (.pointer (some ⟨b1, 0, none⟩)), none, none, none, none, some (.slice A21 t20.length c22), none, none, none, none, none, none, none, none, none, none, none, none, none, none, none, none, none, none, none, none, none, none, none, none, none, none, none, none, none, none, none, none, none, none, none, none, none, none, none, none, none, none, none, none, none, none, none, none, none, none] l26) w24 R) ?_
   intro rec31 ih30 t19 t20 e27 hb29 he28 l26 A21 c22 w24 hS25
   refine sx_split 7 (todo' := [.inRegion (opsOf (cd7 [1, 1, 0, 0, 0, 0, 0])) [], .code (cd7 [1, 1, 0, 0, 0, 0, 1]), .code (cd7 [1, 1, 0, 0, 0, 1]), .inLoop (cd7 [1, 1, 0, 0, 0]), .inBlock 0, .code (cd7 [1, 1, 1])]) (us := [(14, .slice A21 t20.length c22), (15, .int .i64 (t20.length : Int)), (16, .int .i64 a2)]) (d := 17) (t := (decide ((t20.length : Int) < a2))) (by kernel_rfl) (fun h33 => ?_) (fun h34 => ?_)
   ·skip
    have hp35 := ite_t hb29 h33
    refine sx_run 8 (todo' := [.inRegion (opsOf (cd7 [1, 1, 0, 0, 0, 1, 0, 0, 0])) [1, 2], .code (cd7 [1, 1, 0, 0, 0, 1, 0, 0, 1]), .code (cd7 [1, 1, 0, 0, 0, 1, 0, 1]), .inBlock 1, .inLoop (cd7 [1, 1, 0, 0, 0]), .inBlock 0, .code (cd7 [1, 1, 1])]) (us := [(18, .pointer (some ⟨b1, 3, none⟩))]) (by kernel_rfl) ?_
    refine r_load (c := (cd7 [1, 1, 0, 0, 0, 1, 0, 0, 0])) (i := 1) (d := (some 19)) (ty := 29) (t := 29) (x := (.tmp 18)) (p := ⟨b1, 3, none⟩) (v := cond a0_3 (.func (.func 23) #[] #[.pointer (some ⟨ba0_1c0, 0, none⟩), .pointer (some ⟨ba0_1c0vc0, 0, none⟩)]) .nilFunc) (by kernel_rfl) (by kernel_rfl) (by kernel_rfl) (loads_at 3 (hS25.blk 0 rfl) (by kernel_rfl) (by kernel_rfl)) ?_
    obtain ⟨v36, hv37, hp38⟩ := bind_some' hp35
    have hq41 : ∀ x, Sum.inr x = v36 → x = e27 := by intro x hx; subst hx; simpa using hp38
    have J42 : ∀ (he44 : Sum.inl () = v36) (l43 : List Value) (w39 : World) (hS40 : St w0 Z (xblk b1 31 ([.string a0_0, cond a0_1 (.func (.func 21) #[] #[.pointer (some ⟨ba0_1c0, 0, none⟩), .pointer (some ⟨ba0_1c0vc0, 0, none⟩)]) .nilFunc, cond a0_2 (.func (.func 22) #[] #[.pointer (some ⟨ba0_1c0, 0, none⟩), .pointer (some ⟨ba0_1c0vc0, 0, none⟩)]) .nilFunc, cond a0_3 (.func (.func 23) #[] #[.pointer (some ⟨ba0_1c0, 0, none⟩), .pointer (some ⟨ba0_1c0vc0, 0, none⟩)]) .nilFunc]) :: xblk ba0_1c0 53 ([.func (.func 20) #[] #[.pointer (some ⟨ba0_1c0vc0, 0, none⟩)]]) :: xblk ba0_1c0vc0 25 ([.slice Aa0_1c0vc0v_0 a0_1c0vc0v.To.length ca0_1c0vc0v_0, .int .u64 a0_1c0vc0v.Ends, .bool a0_1c0vc0v.Odd, .int .i64 a0_1c0vc0v.Holes]) :: xrow A21 c22 39 3 (t20.flatMap enc_api_Pick) :: fs) w39), Runs Try.prog 7 [.code (cd7 [1, 1, 0, 0, 0, 1, 0, 1]), .inBlock 1, .inLoop (cd7 [1, 1, 0, 0, 0]), .inBlock 0, .code (cd7 [1, 1, 1])] (fill [none, some (.string t19), some (.int .i64 a2), some (.pointer (some ⟨b1, 0, none⟩)), none, none, none, none, some (.slice A21 t20.length c22), none, none, none, none, none, none, none, none, none, none, none, none, none, none, none, none, none, none, none, none, none, none, none, none, none, none, none, none, none, none, none, none, none, none, none, none, none, none, none, none, none, none, none, none, none, none, none, none, none, none] l43) w39 R := by
     intro he44 l43 w39 hS40
     subst he44
     try dsimp only at hp38
     refine sx_run 4 (todo' := [.inRegion (opsOf (cd7 [1, 1, 0, 0, 0, 1, 0, 1, 0, 0])) [1, 2], .code (cd7 [1, 1, 0, 0, 0, 1, 0, 1, 0, 1]), .code (cd7 [1, 1, 0, 0, 0, 1, 0, 1, 1]), .inBlock 1, .inLoop (cd7 [1, 1, 0, 0, 0]), .inBlock 0, .code (cd7 [1, 1, 1])]) (us := [(29, .pointer (some ⟨b1, 1, none⟩))]) (by kernel_rfl) ?_
     refine r_load (c := (cd7 [1, 1, 0, 0, 0, 1, 0, 1, 0, 0])) (i := 1) (d := (some 30)) (ty := 27) (t := 27) (x := (.tmp 29)) (p := ⟨b1, 1, none⟩) (v := cond a0_1 (.func (.func 21) #[] #[.pointer (some ⟨ba0_1c0, 0, none⟩), .pointer (some ⟨ba0_1c0vc0, 0, none⟩)]) .nilFunc) (by kernel_rfl) (by kernel_rfl) (by kernel_rfl) (loads_at 1 (hS40.blk 0 rfl) (by kernel_rfl) (by kernel_rfl)) ?_
     cases a0_1
     ·skip
      have hp45 := ite_f hp38 rfl
      refine sx_run 4 (todo' := [.code (cd7 [1, 1, 1])]) (us := [(31, .bool true)]) (by kernel_rfl) ?_
      have hS46 := hS40.drop
      have hS47 := hS46.pick1
      have hS48 := hS47.pick1
      have hS49 := hS48.pick2
      refine Runs.fill (m := [none, some (.string t19), none, none, none, none, none, none, some (.slice A21 t20.length c22), none, none, none, none, none, none, none, none, none, none, none, none, none, none, none, none, none, none, none, none, none, none, none, none, none, none, none, none, none, none, none, none, none, none, none, none, none, none, none, none, none, none, none, none, none, none, none, none, none, none]) (by kernel_rfl) ?_
      exact J15 t19 t20 ((Option.some.inj hp45).trans he28) _ A21 c22 _ hS49
     ·skip
      have hp50 := ite_t hp38 rfl
      refine sx_run 7 (todo' := [.inRegion (opsOf (cd7 [1, 1, 0, 0, 0, 1, 0, 1, 1, 0])) [1, 2, 3, 4], .code (cd7 [1, 1, 0, 0, 0, 1, 0, 1, 1, 1]), .inBlock 1, .inLoop (cd7 [1, 1, 0, 0, 0]), .inBlock 0, .code (cd7 [1, 1, 1])]) (us := [(31, .bool false), (32, .pointer (some ⟨b1, 1, none⟩))]) (by kernel_rfl) ?_
      refine r_load (c := (cd7 [1, 1, 0, 0, 0, 1, 0, 1, 1, 0])) (i := 1) (d := (some 33)) (ty := 27) (t := 27) (x := (.tmp 32)) (p := ⟨b1, 1, none⟩) (v := .func (.func 21) #[] #[.pointer (some ⟨ba0_1c0, 0, none⟩), .pointer (some ⟨ba0_1c0vc0, 0, none⟩)]) (by kernel_rfl) (by kernel_rfl) (by kernel_rfl) (loads_at 1 (hS40.blk 0 rfl) (by kernel_rfl) (by kernel_rfl)) ?_
      refine sx_run 1 (todo' := [.inRegion (opsOf (cd7 [1, 1, 0, 0, 0, 1, 0, 1, 1, 0])) [3, 4], .code (cd7 [1, 1, 0, 0, 0, 1, 0, 1, 1, 1]), .inBlock 1, .inLoop (cd7 [1, 1, 0, 0, 0]), .inBlock 0, .code (cd7 [1, 1, 1])]) (us := [(34, .string t19)]) (by kernel_rfl) ?_
      obtain ⟨t51, hr54, hp55⟩ := bind_some' hp50
      have hS58 := hS40.pick2
      have hS59 := hS58.pick2
      refine r_call1 (c := (cd7 [1, 1, 0, 0, 0, 1, 0, 1, 1, 0])) (i := 3) (d := (some 35)) (g := 21) (args := #[.string t19, .pointer (some ⟨ba0_1c0, 0, none⟩), .pointer (some ⟨ba0_1c0vc0, 0, none⟩)]) (by kernel_rfl) (by kernel_rfl) (by kernel_rfl) (by kernel_rfl) (weirlaw15_Graph__Machine_2.ok t19 (⟨a0_1c0vc0v.To, a0_1c0vc0v.Ends, a0_1c0vc0v.Odd, a0_1c0vc0v.Holes⟩ : weirlaw15_Graph) ba0_1c0 ba0_1c0vc0 Aa0_1c0vc0v_0 ca0_1c0vc0v_0 hS59 ha0_1c0vc0v_0 hr54) ?_
      rintro _ w60 ⟨Q52, Q53, rfl, hS61⟩
      refine ⟨.slice Q52 t51.length Q53, rfl, ?_⟩
      refine sx_split 8 (todo' := [.inRegion (opsOf (cd7 [1, 1, 0, 0, 0, 1, 0, 1, 1, 1, 0, 0])) [], .code (cd7 [1, 1, 0, 0, 0, 1, 0, 1, 1, 1, 0, 1]), .code (cd7 [1, 1, 0, 0, 0, 1, 0, 1, 1, 1, 1]), .inBlock 1, .inLoop (cd7 [1, 1, 0, 0, 0]), .inBlock 0, .code (cd7 [1, 1, 1])]) (us := [(11, .slice Q52 t51.length Q53), (36, .slice Q52 t51.length Q53), (37, .int .i64 (t51.length : Int))]) (d := 38) (t := ((t51.length : Int) == 0)) (by kernel_rfl) (fun h62 => ?_) (fun h63 => ?_)
      ·skip
       have hp64 := ite_t hp55 h62
       refine sx_run 3 (todo' := [.code (cd7 [1, 1, 1])]) (us := []) (by kernel_rfl) ?_
       have hS65 := hS61.drop
       have hS66 := hS65.pick2
       have hS67 := hS66.drop
       have hS68 := hS67.pick1
       have hS69 := hS68.pick1
       have hS70 := hS69.pick2
       refine Runs.fill (m := [none, some (.string t19), none, none, none, none, none, none, some (.slice A21 t20.length c22), none, none, none, none, none, none, none, none, none, none, none, none, none, none, none, none, none, none, none, none, none, none, none, none, none, none, none, none, none, none, none, none, none, none, none, none, none, none, none, none, none, none, none, none, none, none, none, none, none, none]) (by kernel_rfl) ?_
       exact J15 t19 t20 ((Option.some.inj hp64).trans he28) _ A21 c22 _ hS70
      ·skip
       have hp71 := ite_f hp55 h63
       refine sx_run 4 (todo' := [.code (cd7 [1, 1, 0, 0, 0, 1, 0, 1, 1, 1, 1, 0]), .code (cd7 [1, 1, 0, 0, 0, 1, 0, 1, 1, 1, 1, 1]), .inBlock 1, .inLoop (cd7 [1, 1, 0, 0, 0]), .inBlock 0, .code (cd7 [1, 1, 1])]) (us := []) (by kernel_rfl) ?_
       refine r_quiet hS61 (c := (cd7 [1, 1, 0, 0, 0, 1, 0, 1, 1, 1, 1, 0])) (id := 9) (by kernel_rfl) (by kernel_rfl) (by kernel_rfl) (is := [0, 1, 2, 3, 4, 5, 6, 7, 8, 9, 10]) (by kernel_rfl) ?_
       refine q_load (c := (cd7 [1, 1, 0, 0, 0, 1, 0, 1, 1, 1, 1, 0])) (i := 0) (d := (some 40)) (ty := 31) (t := 31) (x := (.tmp 3)) (p := ⟨b1, 0, none⟩) (v := .agg #[.string a0_0, .func (.func 21) #[] #[.pointer (some ⟨ba0_1c0, 0, none⟩), .pointer (some ⟨ba0_1c0vc0, 0, none⟩)], cond a0_2 (.func (.func 22) #[] #[.pointer (some ⟨ba0_1c0, 0, none⟩), .pointer (some ⟨ba0_1c0vc0, 0, none⟩)]) .nilFunc, cond a0_3 (.func (.func 23) #[] #[.pointer (some ⟨ba0_1c0, 0, none⟩), .pointer (some ⟨ba0_1c0vc0, 0, none⟩)]) .nilFunc]) (by kernel_rfl) (by kernel_rfl) (by kernel_rfl) (fun w hC => (loads_agg (hC.blk 3 rfl) (by kernel_rfl) (by kernel_rfl))) ?_
       refine q_run 2 (is' := [3, 4, 5, 6, 7, 8, 9, 10]) (us := [(41, .string t19), (42, .slice Q52 t51.length Q53)]) (by kernel_rfl) ?_
       obtain ⟨g72, hp73⟩ := ite_some hp71
       obtain ⟨b74, p75, hA76, -⟩ := (hS61.row 0 rfl).at_ len_api_Pick (by omega) g72.1 g72.2
       refine q_indexAddr (c := (cd7 [1, 1, 0, 0, 0, 1, 0, 1, 1, 1, 1, 0])) (i := 3) (d := (some 43)) (ty := 0) (t := 33) (e := 39) (n := t51.length) (cp := Q53) (sz := 3) (kk := .i64) (x := (.tmp 42)) (y := (.const (.int .i64 0))) (b := b74) (o' := p75) (j := (0 : Int)) (by kernel_rfl) (by kernel_rfl) (slv (by kernel_rfl) hA76) (by kernel_rfl) (by kernel_rfl) (by kernel_rfl) g72.1 g72.2 ?_
       refine q_load (c := (cd7 [1, 1, 0, 0, 0, 1, 0, 1, 1, 1, 1, 0])) (i := 4) (d := (some 44)) (ty := 39) (t := 39) (x := (.tmp 43)) (p := ⟨b74, p75 + (0 : Int).toNat * 3, none⟩) (v := .agg (enc_api_Pick (gt t51 (0 : Int))).toArray) (by kernel_rfl) (by kernel_rfl) (by kernel_rfl) (fun w hC => (loads_agg ((hC.row 0 rfl).at2 hA76 len_api_Pick (by omega) g72.1 g72.2) (by kernel_rfl) (by kernel_rfl))) ?_
       obtain ⟨⟨t78, t79⟩, hr80, hp81⟩ := bind_some' hp73
       try dsimp only at hp81
       refine q_call1 (c := (cd7 [1, 1, 0, 0, 0, 1, 0, 1, 1, 1, 1, 0])) (i := 5) (d := (some 45)) (v := .tuple #[.string t78, .bool t79]) (g := 24) (args := #[.agg #[.string a0_0, .func (.func 21) #[] #[.pointer (some ⟨ba0_1c0, 0, none⟩), .pointer (some ⟨ba0_1c0vc0, 0, none⟩)], cond a0_2 (.func (.func 22) #[] #[.pointer (some ⟨ba0_1c0, 0, none⟩), .pointer (some ⟨ba0_1c0vc0, 0, none⟩)]) .nilFunc, cond a0_3 (.func (.func 23) #[] #[.pointer (some ⟨ba0_1c0, 0, none⟩), .pointer (some ⟨ba0_1c0vc0, 0, none⟩)]) .nilFunc], .string t19, .agg (enc_api_Pick (gt t51 (0 : Int))).toArray]) (by kernel_rfl) (by kernel_rfl) (by kernel_rfl) (by kernel_rfl) (fun w hC => by
        have hS83 := hC.pick2
        have hS84 := hS83.pick2
        refine (script_step.ok a0_0 true (⟨a0_1c0vc0v.To, a0_1c0vc0v.Ends, a0_1c0vc0v.Odd, a0_1c0vc0v.Holes⟩ : weirlaw15_Graph) a0_2 a0_3 t19 (gt t51 (0 : Int)) ba0_1c0 ba0_1c0vc0 Aa0_1c0vc0v_0 ca0_1c0vc0v_0 hS84 ha0_1c0vc0v_0 hr80).mono ?_
        rintro e w2 ⟨rfl, h2⟩
        have hS85 := h2.pick4
        have hS86 := hS85.pick4
        have hS87 := hS86.pick3
        have hS88 := hS87.pick3
        have hS89 := hS88.pick4
        exact ⟨rfl, hS89⟩) ?_
       refine q_run 5 (is' := []) (us := [(39, .tuple #[.string t78, .bool t79]), (46, .string t78), (47, .bool t79), (12, .string t78), (13, .bool t79)]) (by kernel_rfl) ?_
       refine Qs.nil ?_
       intro w90 hS91
       refine sx_split 5 (todo' := [.inRegion (opsOf (cd7 [1, 1, 0, 0, 0, 1, 0, 1, 1, 1, 1, 1, 0, 0])) [], .code (cd7 [1, 1, 0, 0, 0, 1, 0, 1, 1, 1, 1, 1, 0, 1]), .code (cd7 [1, 1, 0, 0, 0, 1, 0, 1, 1, 1, 1, 1, 1]), .inBlock 1, .inLoop (cd7 [1, 1, 0, 0, 0]), .inBlock 0, .code (cd7 [1, 1, 1])]) (us := [(48, .bool t79)]) (d := 49) (t := (!t79)) (by kernel_rfl) (fun h92 => ?_) (fun h93 => ?_)
       ·skip
        have hp94 := ite_t hp81 h92
        refine sx_run 3 (todo' := [.code (cd7 [1, 1, 1])]) (us := []) (by kernel_rfl) ?_
        have hS95 := hS91.drop
        have hS96 := hS95.pick2
        have hS97 := hS96.drop
        have hS98 := hS97.pick1
        have hS99 := hS98.pick1
        have hS100 := hS99.pick2
        refine Runs.fill (m := [none, some (.string t19), none, none, none, none, none, none, some (.slice A21 t20.length c22), none, none, none, none, none, none, none, none, none, none, none, none, none, none, none, none, none, none, none, none, none, none, none, none, none, none, none, none, none, none, none, none, none, none, none, none, none, none, none, none, none, none, none, none, none, none, none, none, none, none]) (by kernel_rfl) ?_
        exact J15 t19 t20 ((Option.some.inj hp94).trans he28) _ A21 c22 _ hS100
       ·skip
        have hp101 := ite_f hp81 h93
        refine sx_run 6 (todo' := [.inRegion (opsOf (cd7 [1, 1, 0, 0, 0, 1, 0, 1, 1, 1, 1, 1, 1])) [2, 3, 4, 5, 6, 7, 8], .inBlock 1, .inLoop (cd7 [1, 1, 0, 0, 0]), .inBlock 0, .code (cd7 [1, 1, 1])]) (us := [(50, .slice A21 t20.length c22), (51, .slice Q52 t51.length Q53)]) (by kernel_rfl) ?_
        obtain ⟨g102, hp103⟩ := ite_some hp101
        obtain ⟨b104, p105, hA106, -⟩ := (hS91.row 0 rfl).at_ len_api_Pick (by omega) g102.1 g102.2
        refine r_indexAddr (c := (cd7 [1, 1, 0, 0, 0, 1, 0, 1, 1, 1, 1, 1, 1])) (i := 2) (d := (some 52)) (ty := 0) (t := 33) (e := 39) (n := t51.length) (cp := Q53) (sz := 3) (kk := .i64) (x := (.tmp 51)) (y := (.const (.int .i64 0))) (b := b104) (o' := p105) (j := (0 : Int)) (by kernel_rfl) (by kernel_rfl) (slv (by kernel_rfl) hA106) (by kernel_rfl) (by kernel_rfl) (by kernel_rfl) g102.1 g102.2 ?_
        refine r_load (c := (cd7 [1, 1, 0, 0, 0, 1, 0, 1, 1, 1, 1, 1, 1])) (i := 3) (d := (some 53)) (ty := 39) (t := 39) (x := (.tmp 52)) (p := ⟨b104, p105 + (0 : Int).toNat * 3, none⟩) (v := .agg (enc_api_Pick (gt t51 (0 : Int))).toArray) (by kernel_rfl) (by kernel_rfl) (by kernel_rfl) (loads_agg ((hS91.row 0 rfl).at2 hA106 len_api_Pick (by omega) g102.1 g102.2) (by kernel_rfl) (by kernel_rfl)) ?_
        refine r_lit (c := (cd7 [1, 1, 0, 0, 0, 1, 0, 1, 1, 1, 1, 1, 1])) (i := 4) (d := (some 54)) (ty := 33) (t := 33) (e := 39) (sz := 3) (n := 1) (parts := #[(0, (.tmp 53))]) (vs := [(0, .agg (enc_api_Pick (gt t51 (0 : Int))).toArray)]) (z := zeroOf Try.prog 39) (cs' := ([(gt t51 (0 : Int))] : List api_Pick).flatMap enc_api_Pick) hS91 (by kernel_rfl) (by kernel_rfl) (by kernel_rfl) (by kernel_rfl) (by kernel_rfl) (by decide) (by decide) (by kernel_rfl) rfl (Parts.cons (c := enc_api_Pick (gt t51 (0 : Int))) (by kernel_rfl) (len_api_Pick _) Parts.nil) rfl ?_
        intro b109 w110 hS111
        have hS112 := hS111.pick5
        obtain ⟨g113, hp114⟩ := ite_some hp103
        refine r_append (c := (cd7 [1, 1, 0, 0, 0, 1, 0, 1, 1, 1, 1, 1, 1])) (i := 5) (d := (some 55)) (ty := 33) (enc := enc_api_Pick) (e := 39) (u := 39) (t := 33) (t2 := 33) (sz := 3) (cp := c22) (A := A21) (bytes := 24) (xs := t20) (ys := ([(gt t51 (0 : Int))] : List api_Pick)) (s := (.tmp 50)) (x := (.tmp 54)) (xv := .slice (some ⟨b109, 0, none⟩) ([(gt t51 (0 : Int))] : List api_Pick).length 1) (info := infoOf Try.prog 39) (z := zeroOf Try.prog 39) (ycs := ([(gt t51 (0 : Int))] : List api_Pick).flatMap enc_api_Pick) hS112 (by kernel_rfl) (by kernel_rfl) (by kernel_rfl) (by kernel_rfl) (by kernel_rfl) (.inl (by kernel_rfl)) (by kernel_rfl) (by kernel_rfl) (by kernel_rfl) (by kernel_rfl) (by kernel_rfl) (by omega) len_api_Pick one_api_Pick (src_row (hS112.row 1 rfl) (by omega) len_api_Pick) rfl g113 (by omega) ?_
        intro A115 c116 w117 hS118
        refine sx_run 5 (todo' := [.inLoop (cd7 [1, 1, 0, 0, 0]), .inBlock 0, .code (cd7 [1, 1, 1])]) (us := [(56, .string t78), (8, .slice A115 (t20 ++ ([(gt t51 (0 : Int))] : List api_Pick)).length c116), (1, .string t78)]) (by kernel_rfl) ?_
        have hS120 := hS118.pick1
        have hS121 := hS120.drop
        have hS122 := hS121.pick1
        have hS123 := hS122.drop
        have hS124 := hS123.pick2
        have hS125 := hS124.pick2
        have hS126 := hS125.pick3
        refine sx_run 1 (todo' := [.code (cd7 [1, 1, 0, 0, 0]), .inLoop (cd7 [1, 1, 0, 0, 0]), .inBlock 0, .code (cd7 [1, 1, 1])]) (us := []) (by kernel_rfl) ?_
        refine Runs.fill (m := [none, some (.string t78), some (.int .i64 a2), some (.pointer (some ⟨b1, 0, none⟩)), none, none, none, none, some (.slice A115 (t20 ++ ([(gt t51 (0 : Int))] : List api_Pick)).length c116), none, none, none, none, none, none, none, none, none, none, none, none, none, none, none, none, none, none, none, none, none, none, none, none, none, none, none, none, none, none, none, none, none, none, none, none, none, none, none, none, none, none, none, none, none, none, none, none, none, none]) (by kernel_rfl) ?_
        exact ih30 t78 (t20 ++ ([(gt t51 (0 : Int))] : List api_Pick)) _ hp114 he28 _ A115 c116 _ hS126
    cases a0_3
    ·skip
     have hp127 := ite_f hv37 rfl
     refine sx_run 4 (todo' := [.code (cd7 [1, 1, 0, 0, 0, 1, 0, 1]), .inBlock 1, .inLoop (cd7 [1, 1, 0, 0, 0]), .inBlock 0, .code (cd7 [1, 1, 1])]) (us := [(20, .bool false)]) (by kernel_rfl) ?_
     refine Runs.fill (m := [none, some (.string t19), some (.int .i64 a2), some (.pointer (some ⟨b1, 0, none⟩)), none, none, none, none, some (.slice A21 t20.length c22), none, none, none, none, none, none, none, none, none, none, none, none, none, none, none, none, none, none, none, none, none, none, none, none, none, none, none, none, none, none, none, none, none, none, none, none, none, none, none, none, none, none, none, none, none, none, none, none, none, none]) (by kernel_rfl) ?_
     exact J42 (Option.some.inj hp127) _ _ hS25
    ·skip
     have hp128 := ite_t hv37 rfl
     refine sx_run 6 (todo' := [.inRegion (opsOf (cd7 [1, 1, 0, 0, 0, 1, 0, 0, 1, 0, 0])) [1, 2, 3, 4, 5, 6, 7, 8, 9], .code (cd7 [1, 1, 0, 0, 0, 1, 0, 0, 1, 0, 1]), .code (cd7 [1, 1, 0, 0, 0, 1, 0, 1]), .inBlock 1, .inLoop (cd7 [1, 1, 0, 0, 0]), .inBlock 0, .code (cd7 [1, 1, 1])]) (us := [(20, .bool true), (22, .pointer (some ⟨b1, 3, none⟩))]) (by kernel_rfl) ?_
     refine r_load (c := (cd7 [1, 1, 0, 0, 0, 1, 0, 0, 1, 0, 0])) (i := 1) (d := (some 23)) (ty := 29) (t := 29) (x := (.tmp 22)) (p := ⟨b1, 3, none⟩) (v := .func (.func 23) #[] #[.pointer (some ⟨ba0_1c0, 0, none⟩), .pointer (some ⟨ba0_1c0vc0, 0, none⟩)]) (by kernel_rfl) (by kernel_rfl) (by kernel_rfl) (loads_at 3 (hS25.blk 0 rfl) (by kernel_rfl) (by kernel_rfl)) ?_
     refine sx_run 1 (todo' := [.inRegion (opsOf (cd7 [1, 1, 0, 0, 0, 1, 0, 0, 1, 0, 0])) [3, 4, 5, 6, 7, 8, 9], .code (cd7 [1, 1, 0, 0, 0, 1, 0, 0, 1, 0, 1]), .code (cd7 [1, 1, 0, 0, 0, 1, 0, 1]), .inBlock 1, .inLoop (cd7 [1, 1, 0, 0, 0]), .inBlock 0, .code (cd7 [1, 1, 1])]) (us := [(24, .string t19)]) (by kernel_rfl) ?_
     obtain ⟨⟨t129, t130⟩, hr131, hp132⟩ := bind_some' hp128
     try dsimp only at hp132
     have hS134 := hS25.pick2
     have hS135 := hS134.pick2
     refine r_call1 (c := (cd7 [1, 1, 0, 0, 0, 1, 0, 0, 1, 0, 0])) (i := 3) (d := (some 25)) (g := 23) (args := #[.string t19, .pointer (some ⟨ba0_1c0, 0, none⟩), .pointer (some ⟨ba0_1c0vc0, 0, none⟩)]) (by kernel_rfl) (by kernel_rfl) (by kernel_rfl) (by kernel_rfl) (weirlaw15_Graph__Machine_4.ok t19 (⟨a0_1c0vc0v.To, a0_1c0vc0v.Ends, a0_1c0vc0v.Odd, a0_1c0vc0v.Holes⟩ : weirlaw15_Graph) ba0_1c0 ba0_1c0vc0 Aa0_1c0vc0v_0 ca0_1c0vc0v_0 hS135 ha0_1c0vc0v_0 hr131) ?_
     rintro _ w136 ⟨rfl, hS137⟩
     refine ⟨.tuple #[.agg (enc_api_Final t129).toArray, .bool t130], rfl, ?_⟩
     refine sx_run 3 (todo' := [.inRegion (opsOf (cd7 [1, 1, 0, 0, 0, 1, 0, 0, 1, 0, 0])) [7, 8, 9], .code (cd7 [1, 1, 0, 0, 0, 1, 0, 0, 1, 0, 1]), .code (cd7 [1, 1, 0, 0, 0, 1, 0, 1]), .inBlock 1, .inLoop (cd7 [1, 1, 0, 0, 0]), .inBlock 0, .code (cd7 [1, 1, 1])]) (us := [(21, .tuple #[.agg (enc_api_Final t129).toArray, .bool t130]), (26, .agg (enc_api_Final t129).toArray), (27, .bool t130)]) (by kernel_rfl) ?_
     refine r_alloc (c := (cd7 [1, 1, 0, 0, 0, 1, 0, 0, 1, 0, 0])) (i := 7) (d := (some 9)) (ty := 0) (z := .agg (enc_api_Final (⟨0, (Vector.replicate 48 0)⟩ : api_Final)).toArray) (t := 46) (cs := enc_api_Final (⟨0, (Vector.replicate 48 0)⟩ : api_Final)) hS137 (by kernel_rfl) (by kernel_rfl) (by kernel_rfl) (by kernel_rfl) ?_
     intro b138 w139 hS140
     refine r_store (c := (cd7 [1, 1, 0, 0, 0, 1, 0, 0, 1, 0, 0])) (i := 8) (d := none) (ty := 0) (t := 46) (x := (.tmp 9)) (y := (.tmp 26)) (b := b138) (o := 0) (e := 46) (cs := enc_api_Final (⟨0, (Vector.replicate 48 0)⟩ : api_Final)) (v := .agg (enc_api_Final t129).toArray) (vs := enc_api_Final t129) (cs' := enc_api_Final t129) hS140 (by kernel_rfl) (by kernel_rfl) (by kernel_rfl) (by kernel_rfl) (by kernel_rfl) (lenK (len_api_Final _) (by kernel_rfl)) (one_api_Final _) (by simp only [len_api_Final, List.length_cons, List.length_nil, List.length_append]; omega) (over_all ((len_api_Final _).trans (len_api_Final _).symm)) ?_
     intro w142 hS143
     refine sx_run 6 (todo' := [.code (cd7 [1, 1, 0, 0, 0, 1, 0, 0, 1, 0, 1, 1]), .code (cd7 [1, 1, 0, 0, 0, 1, 0, 1]), .inBlock 1, .inLoop (cd7 [1, 1, 0, 0, 0]), .inBlock 0, .code (cd7 [1, 1, 1])]) (us := [(10, .bool t130), (28, .bool t130)]) (by kernel_rfl) ?_
     cases t130
     ·skip
      have hp144 := ite_f hp132 rfl
      refine sx_run 2 (todo' := [.code (cd7 [1, 1, 0, 0, 0, 1, 0, 1]), .inBlock 1, .inLoop (cd7 [1, 1, 0, 0, 0]), .inBlock 0, .code (cd7 [1, 1, 1])]) (us := []) (by kernel_rfl) ?_
      have hS145 := hS143.drop
      have hS146 := hS145.pick3
      have hS147 := hS146.pick2
      have hS148 := hS147.pick2
      have hS149 := hS148.pick3
      refine Runs.fill (m := [none, some (.string t19), some (.int .i64 a2), some (.pointer (some ⟨b1, 0, none⟩)), none, none, none, none, some (.slice A21 t20.length c22), none, none, none, none, none, none, none, none, none, none, none, none, none, none, none, none, none, none, none, none, none, none, none, none, none, none, none, none, none, none, none, none, none, none, none, none, none, none, none, none, none, none, none, none, none, none, none, none, none, none]) (by kernel_rfl) ?_
      exact J42 (Option.some.inj hp144) _ _ hS149
     ·skip
      have hp150 := ite_t hp132 rfl
      refine sx_run 2 (todo' := [.code (cd7 [1, 1, 1])]) (us := []) (by kernel_rfl) ?_
      have hS151 := hS143.drop
      have hS152 := hS151.pick2
      have hS153 := hS152.drop
      have hS154 := hS153.pick1
      have hS155 := hS154.pick1
      have hS156 := hS155.pick2
      refine Runs.fill (m := [none, some (.string t19), none, none, none, none, none, none, some (.slice A21 t20.length c22), none, none, none, none, none, none, none, none, none, none, none, none, none, none, none, none, none, none, none, none, none, none, none, none, none, none, none, none, none, none, none, none, none, none, none, none, none, none, none, none, none, none, none, none, none, none, none, none, none, none]) (by kernel_rfl) ?_
      exact J15 t19 t20 ((hq41 _ (Option.some.inj hp150)).trans he28) _ A21 c22 _ hS156
   ·skip
    have hp157 := ite_f hb29 h34
    refine sx_run 3 (todo' := [.code (cd7 [1, 1, 1])]) (us := []) (by kernel_rfl) ?_
    have hS158 := hS25.drop
    have hS159 := hS158.pick1
    have hS160 := hS159.pick1
    have hS161 := hS160.pick2
    refine Runs.fill (m := [none, some (.string t19), none, none, none, none, none, none, some (.slice A21 t20.length c22), none, none, none, none, none, none, none, none, none, none, none, none, none, none, none, none, none, none, none, none, none, none, none, none, none, none, none, none, none, none, none, none, none, none, none, none, none, none, none, none, none, none, none, none, none, none, none, none, none, none]) (by kernel_rfl) ?_
    exact J15 t19 t20 ((Option.some.inj hp157).trans he28) _ A21 c22 _ hS161
  have hS163 := hS3.nilrow none 39 3
  have hS164 := hS163.pick3
  have hS165 := hS164.pick3
  have hS166 := hS165.pick3
  refine Runs.fill (m := [none, some (.string a1), some (.int .i64 a2), some (.pointer (some ⟨b1, 0, none⟩)), none, none, none, none, some (.slice none 0 0), none, none, none, none, none, none, none, none, none, none, none, none, none, none, none, none, none, none, none, none, none, none, none, none, none, none, none, none, none, none, none, none, none, none, none, none, none, none, none, none, none, none, none, none, none, none, none, none, none, none]) (by kernel_rfl) ?_
  exact L32 a1 [] _ hv6 rfl _ none 0 _ hS166

noncomputable def cd25 (p : List Nat) : Code := sub (bodyOf Try.f25) p
def weirref15_end.f (a0_0 : ByteArray) (a0_1 : Bool) (a0_1c0vc0v : weirlaw15_Graph) (a0_2 : Bool) (a0_3 : Bool) (a1 : ByteArray) : Option (api_Final × Bool) :=
  (if a0_3 = true then (weirlaw15_Graph__Machine_4.f a1 (⟨a0_1c0vc0v.To, a0_1c0vc0v.Ends, a0_1c0vc0v.Odd, a0_1c0vc0v.Holes⟩ : weirlaw15_Graph) >>= (fun (t16, t17) => some ((t16, t17)))) else some (((⟨0, (Vector.replicate 48 0)⟩ : api_Final), false)))
set_option maxHeartbeats 16000000 in
theorem weirref15_end.ok (a0_0 : ByteArray) (a0_1 : Bool) (a0_1c0vc0v : weirlaw15_Graph) (a0_2 : Bool) (a0_3 : Bool) (a1 : ByteArray) (ba0_1c0 : Nat) (ba0_1c0vc0 : Nat) (Aa0_1c0vc0v_0 : Option Addr) (ca0_1c0vc0v_0 : Nat) {w0 : World} {Z : Zm} {fs : List XObj} {w : World} (hS0 : St w0 Z (xblk ba0_1c0 53 ([.func (.func 20) #[] #[.pointer (some ⟨ba0_1c0vc0, 0, none⟩)]]) :: xblk ba0_1c0vc0 25 ([.slice Aa0_1c0vc0v_0 a0_1c0vc0v.To.length ca0_1c0vc0v_0, .int .u64 a0_1c0vc0v.Ends, .bool a0_1c0vc0v.Odd, .int .i64 a0_1c0vc0v.Holes]) :: fs) w) (ha0_1c0vc0v_0 : SlZ (repL (flat (encI .i64)) 1) 1 Z Aa0_1c0vc0v_0 ca0_1c0vc0v_0 a0_1c0vc0v.To) {q0 : api_Final} {q1 : Bool} (hp0 : weirref15_end.f a0_0 a0_1 a0_1c0vc0v a0_2 a0_3 a1 = some (q0, q1)) :
    Calls Try.prog 25 #[.agg #[.string a0_0, cond a0_1 (.func (.func 21) #[] #[.pointer (some ⟨ba0_1c0, 0, none⟩), .pointer (some ⟨ba0_1c0vc0, 0, none⟩)]) .nilFunc, cond a0_2 (.func (.func 22) #[] #[.pointer (some ⟨ba0_1c0, 0, none⟩), .pointer (some ⟨ba0_1c0vc0, 0, none⟩)]) .nilFunc, cond a0_3 (.func (.func 23) #[] #[.pointer (some ⟨ba0_1c0, 0, none⟩), .pointer (some ⟨ba0_1c0vc0, 0, none⟩)]) .nilFunc], .string a1] w (fun e w' => e = .returned (.tuple #[.agg (enc_api_Final q0).toArray, .bool q1]) ∧ St w0 Z (xblk ba0_1c0 53 ([.func (.func 20) #[] #[.pointer (some ⟨ba0_1c0vc0, 0, none⟩)]]) :: xblk ba0_1c0vc0 25 ([.slice Aa0_1c0vc0v_0 a0_1c0vc0v.To.length ca0_1c0vc0v_0, .int .u64 a0_1c0vc0v.Ends, .bool a0_1c0vc0v.Odd, .int .i64 a0_1c0vc0v.Holes]) :: fs) w') := by
  refine calls_abs ?_; intro R hR
  unfold weirref15_end.f at hp0
  refine calls_of_runs (fn := Try.f25) (c := cd25 []) Try.func25 (by kernel_rfl) (al := [.agg #[.string a0_0, cond a0_1 (.func (.func 21) #[] #[.pointer (some ⟨ba0_1c0, 0, none⟩), .pointer (some ⟨ba0_1c0vc0, 0, none⟩)]) .nilFunc, cond a0_2 (.func (.func 22) #[] #[.pointer (some ⟨ba0_1c0, 0, none⟩), .pointer (some ⟨ba0_1c0vc0, 0, none⟩)]) .nilFunc, cond a0_3 (.func (.func 23) #[] #[.pointer (some ⟨ba0_1c0, 0, none⟩), .pointer (some ⟨ba0_1c0vc0, 0, none⟩)]) .nilFunc], .string a1]) rfl (n := 14) rfl ?_
  refine sx_run 2 (todo' := [.inRegion (opsOf (cd25 [0])) [0, 1, 2], .code (cd25 [1])]) (us := []) (by kernel_rfl) ?_
  refine r_box (c := (cd25 [0])) (i := 0) (d := (some 2)) (ty := 0) (x := (.tmp 0)) (v := .agg #[.string a0_0, cond a0_1 (.func (.func 21) #[] #[.pointer (some ⟨ba0_1c0, 0, none⟩), .pointer (some ⟨ba0_1c0vc0, 0, none⟩)]) .nilFunc, cond a0_2 (.func (.func 22) #[] #[.pointer (some ⟨ba0_1c0, 0, none⟩), .pointer (some ⟨ba0_1c0vc0, 0, none⟩)]) .nilFunc, cond a0_3 (.func (.func 23) #[] #[.pointer (some ⟨ba0_1c0, 0, none⟩), .pointer (some ⟨ba0_1c0vc0, 0, none⟩)]) .nilFunc]) (t := 31) (cs := [.string a0_0, cond a0_1 (.func (.func 21) #[] #[.pointer (some ⟨ba0_1c0, 0, none⟩), .pointer (some ⟨ba0_1c0vc0, 0, none⟩)]) .nilFunc, cond a0_2 (.func (.func 22) #[] #[.pointer (some ⟨ba0_1c0, 0, none⟩), .pointer (some ⟨ba0_1c0vc0, 0, none⟩)]) .nilFunc, cond a0_3 (.func (.func 23) #[] #[.pointer (some ⟨ba0_1c0, 0, none⟩), .pointer (some ⟨ba0_1c0vc0, 0, none⟩)]) .nilFunc]) hS0 (by kernel_rfl) (by kernel_rfl) (by kernel_rfl) (by kernel_rfl) ?_
  intro b1 w2 hS3
  refine r_alloc (c := (cd25 [0])) (i := 1) (d := (some 4)) (ty := 0) (z := .agg (enc_api_Final (⟨0, (Vector.replicate 48 0)⟩ : api_Final)).toArray) (t := 46) (cs := enc_api_Final (⟨0, (Vector.replicate 48 0)⟩ : api_Final)) hS3 (by kernel_rfl) (by kernel_rfl) (by kernel_rfl) (by kernel_rfl) ?_
  intro b5 w6 hS7
  refine sx_run 6 (todo' := [.inRegion (opsOf (cd25 [1, 0, 0])) [1, 2], .code (cd25 [1, 0, 1]), .code (cd25 [1, 1])]) (us := [(5, .bool false), (6, .pointer (some ⟨b1, 3, none⟩))]) (by kernel_rfl) ?_
  refine r_load (c := (cd25 [1, 0, 0])) (i := 1) (d := (some 7)) (ty := 29) (t := 29) (x := (.tmp 6)) (p := ⟨b1, 3, none⟩) (v := cond a0_3 (.func (.func 23) #[] #[.pointer (some ⟨ba0_1c0, 0, none⟩), .pointer (some ⟨ba0_1c0vc0, 0, none⟩)]) .nilFunc) (by kernel_rfl) (by kernel_rfl) (by kernel_rfl) (loads_at 3 (hS7.blk 1 rfl) (by kernel_rfl) (by kernel_rfl)) ?_
  cases a0_3
  ·skip
   have hp9 := ite_f hp0 rfl
   refine sx_run 6 (todo' := [.inRegion (opsOf (cd25 [1, 0, 1, 0, 0])) [1, 2], .code (cd25 [1, 0, 1, 0, 1]), .code (cd25 [1, 1])]) (us := [(8, .bool true), (9, .agg (enc_api_Final (⟨0, (Vector.replicate 48 0)⟩ : api_Final)).toArray)]) (by kernel_rfl) ?_
   refine r_store (c := (cd25 [1, 0, 1, 0, 0])) (i := 1) (d := none) (ty := 0) (t := 46) (x := (.tmp 4)) (y := (.tmp 9)) (b := b5) (o := 0) (e := 46) (cs := enc_api_Final (⟨0, (Vector.replicate 48 0)⟩ : api_Final)) (v := .agg (enc_api_Final (⟨0, (Vector.replicate 48 0)⟩ : api_Final)).toArray) (vs := enc_api_Final (⟨0, (Vector.replicate 48 0)⟩ : api_Final)) (cs' := enc_api_Final (⟨0, (Vector.replicate 48 0)⟩ : api_Final)) hS7 (by kernel_rfl) (by kernel_rfl) (by kernel_rfl) (by kernel_rfl) (by kernel_rfl) (lenK (len_api_Final _) (by kernel_rfl)) (one_api_Final _) (by simp only [len_api_Final, List.length_cons, List.length_nil, List.length_append]; omega) (over_all ((len_api_Final _).trans (len_api_Final _).symm)) ?_
   intro w10 hS11
   refine sx_run 2 (todo' := [.code (cd25 [1, 0, 1, 0, 1]), .code (cd25 [1, 1])]) (us := [(5, .bool false)]) (by kernel_rfl) ?_
   have hS12 := hS11.drop
   have hS13 := hS12.drop
   refine runs_ret (fn := Try.f25) (v := .tuple #[.agg (enc_api_Final (⟨0, (Vector.replicate 48 0)⟩ : api_Final)).toArray, .bool false]) Try.func25 (resl_run (fn := Try.f25) (by kernel_rfl) (.cell (t := 4) (ty := 46) (by kernel_rfl) (loads_agg (hS11.blk 0 rfl) (by kernel_rfl) (lenK (len_api_Final _) (by kernel_rfl))) (.tmp (t := 5) (by kernel_rfl) .nil))) ?_
   have hr14 := (Option.some.inj hp9)
   cases hr14
   exact hR _ _ ⟨rfl, hS13⟩
  ·skip
   have hp15 := ite_t hp0 rfl
   refine sx_run 7 (todo' := [.inRegion (opsOf (cd25 [1, 1, 0])) [1, 2, 3, 4, 5, 6, 7], .code (cd25 [1, 1, 1])]) (us := [(8, .bool false), (10, .pointer (some ⟨b1, 3, none⟩))]) (by kernel_rfl) ?_
   refine r_load (c := (cd25 [1, 1, 0])) (i := 1) (d := (some 11)) (ty := 29) (t := 29) (x := (.tmp 10)) (p := ⟨b1, 3, none⟩) (v := .func (.func 23) #[] #[.pointer (some ⟨ba0_1c0, 0, none⟩), .pointer (some ⟨ba0_1c0vc0, 0, none⟩)]) (by kernel_rfl) (by kernel_rfl) (by kernel_rfl) (loads_at 3 (hS7.blk 1 rfl) (by kernel_rfl) (by kernel_rfl)) ?_
   refine sx_run 1 (todo' := [.inRegion (opsOf (cd25 [1, 1, 0])) [3, 4, 5, 6, 7], .code (cd25 [1, 1, 1])]) (us := [(12, .string a1)]) (by kernel_rfl) ?_
   obtain ⟨⟨t16, t17⟩, hr18, hp19⟩ := bind_some' hp15
   try dsimp only at hp19
   have hS21 := hS7.pick3
   have hS22 := hS21.pick3
   refine r_call1 (c := (cd25 [1, 1, 0])) (i := 3) (d := (some 13)) (g := 23) (args := #[.string a1, .pointer (some ⟨ba0_1c0, 0, none⟩), .pointer (some ⟨ba0_1c0vc0, 0, none⟩)]) (by kernel_rfl) (by kernel_rfl) (by kernel_rfl) (by kernel_rfl) (weirlaw15_Graph__Machine_4.ok a1 (⟨a0_1c0vc0v.To, a0_1c0vc0v.Ends, a0_1c0vc0v.Odd, a0_1c0vc0v.Holes⟩ : weirlaw15_Graph) ba0_1c0 ba0_1c0vc0 Aa0_1c0vc0v_0 ca0_1c0vc0v_0 hS22 ha0_1c0vc0v_0 hr18) ?_
   rintro _ w23 ⟨rfl, hS24⟩
   refine ⟨.tuple #[.agg (enc_api_Final t16).toArray, .bool t17], rfl, ?_⟩
   refine sx_run 2 (todo' := [.inRegion (opsOf (cd25 [1, 1, 0])) [6, 7], .code (cd25 [1, 1, 1])]) (us := [(14, .agg (enc_api_Final t16).toArray), (15, .bool t17)]) (by kernel_rfl) ?_
   have hS25 := hS24.pick2
   refine r_store (c := (cd25 [1, 1, 0])) (i := 6) (d := none) (ty := 0) (t := 46) (x := (.tmp 4)) (y := (.tmp 14)) (b := b5) (o := 0) (e := 46) (cs := enc_api_Final (⟨0, (Vector.replicate 48 0)⟩ : api_Final)) (v := .agg (enc_api_Final t16).toArray) (vs := enc_api_Final t16) (cs' := enc_api_Final t16) hS25 (by kernel_rfl) (by kernel_rfl) (by kernel_rfl) (by kernel_rfl) (by kernel_rfl) (lenK (len_api_Final _) (by kernel_rfl)) (one_api_Final _) (by simp only [len_api_Final, List.length_cons, List.length_nil, List.length_append]; omega) (over_all ((len_api_Final _).trans (len_api_Final _).symm)) ?_
   intro w26 hS27
   refine sx_run 2 (todo' := [.code (cd25 [1, 1, 1])]) (us := [(5, .bool t17)]) (by kernel_rfl) ?_
   have hS28 := hS27.drop
   have hS29 := hS28.pick2
   have hS30 := hS29.drop
   refine runs_ret (fn := Try.f25) (v := .tuple #[.agg (enc_api_Final t16).toArray, .bool t17]) Try.func25 (resl_run (fn := Try.f25) (by kernel_rfl) (.cell (t := 4) (ty := 46) (by kernel_rfl) (loads_agg (hS27.blk 0 rfl) (by kernel_rfl) (lenK (len_api_Final _) (by kernel_rfl))) (.tmp (t := 5) (by kernel_rfl) .nil))) ?_
   have hr31 := (Option.some.inj hp19)
   cases hr31
   exact hR _ _ ⟨rfl, hS30⟩

noncomputable def cd26 (p : List Nat) : Code := sub (bodyOf Try.f26) p
def weirref15_step.f (a0_0 : ByteArray) (a0_1 : Bool) (a0_1c0vc0v : weirlaw15_Graph) (a0_2 : Bool) (a0_3 : Bool) (a1 : ByteArray) (a2 : api_Pick) : Option (ByteArray × Bool) :=
  (if a0_2 = true then (weirlaw15_Graph__Machine_3.f a1 a2 (⟨a0_1c0vc0v.To, a0_1c0vc0v.Ends, a0_1c0vc0v.Odd, a0_1c0vc0v.Holes⟩ : weirlaw15_Graph) >>= (fun (t14, t15) => some ((t14, t15)))) else some (((⟨#[]⟩ : ByteArray), false)))
set_option maxHeartbeats 16000000 in
theorem weirref15_step.ok (a0_0 : ByteArray) (a0_1 : Bool) (a0_1c0vc0v : weirlaw15_Graph) (a0_2 : Bool) (a0_3 : Bool) (a1 : ByteArray) (a2 : api_Pick) (ba0_1c0 : Nat) (ba0_1c0vc0 : Nat) (Aa0_1c0vc0v_0 : Option Addr) (ca0_1c0vc0v_0 : Nat) {w0 : World} {Z : Zm} {fs : List XObj} {w : World} (hS0 : St w0 Z (xblk ba0_1c0 53 ([.func (.func 20) #[] #[.pointer (some ⟨ba0_1c0vc0, 0, none⟩)]]) :: xblk ba0_1c0vc0 25 ([.slice Aa0_1c0vc0v_0 a0_1c0vc0v.To.length ca0_1c0vc0v_0, .int .u64 a0_1c0vc0v.Ends, .bool a0_1c0vc0v.Odd, .int .i64 a0_1c0vc0v.Holes]) :: fs) w) (ha0_1c0vc0v_0 : SlZ (repL (flat (encI .i64)) 1) 1 Z Aa0_1c0vc0v_0 ca0_1c0vc0v_0 a0_1c0vc0v.To) {q0 : ByteArray} {q1 : Bool} (hp0 : weirref15_step.f a0_0 a0_1 a0_1c0vc0v a0_2 a0_3 a1 a2 = some (q0, q1)) :
    Calls Try.prog 26 #[.agg #[.string a0_0, cond a0_1 (.func (.func 21) #[] #[.pointer (some ⟨ba0_1c0, 0, none⟩), .pointer (some ⟨ba0_1c0vc0, 0, none⟩)]) .nilFunc, cond a0_2 (.func (.func 22) #[] #[.pointer (some ⟨ba0_1c0, 0, none⟩), .pointer (some ⟨ba0_1c0vc0, 0, none⟩)]) .nilFunc, cond a0_3 (.func (.func 23) #[] #[.pointer (some ⟨ba0_1c0, 0, none⟩), .pointer (some ⟨ba0_1c0vc0, 0, none⟩)]) .nilFunc], .string a1, .agg (enc_api_Pick a2).toArray] w (fun e w' => e = .returned (.tuple #[.string q0, .bool q1]) ∧ St w0 Z (xblk ba0_1c0 53 ([.func (.func 20) #[] #[.pointer (some ⟨ba0_1c0vc0, 0, none⟩)]]) :: xblk ba0_1c0vc0 25 ([.slice Aa0_1c0vc0v_0 a0_1c0vc0v.To.length ca0_1c0vc0v_0, .int .u64 a0_1c0vc0v.Ends, .bool a0_1c0vc0v.Odd, .int .i64 a0_1c0vc0v.Holes]) :: fs) w') := by
  refine calls_abs ?_; intro R hR
  unfold weirref15_step.f at hp0
  refine calls_of_runs (fn := Try.f26) (c := cd26 []) Try.func26 (by kernel_rfl) (al := [.agg #[.string a0_0, cond a0_1 (.func (.func 21) #[] #[.pointer (some ⟨ba0_1c0, 0, none⟩), .pointer (some ⟨ba0_1c0vc0, 0, none⟩)]) .nilFunc, cond a0_2 (.func (.func 22) #[] #[.pointer (some ⟨ba0_1c0, 0, none⟩), .pointer (some ⟨ba0_1c0vc0, 0, none⟩)]) .nilFunc, cond a0_3 (.func (.func 23) #[] #[.pointer (some ⟨ba0_1c0, 0, none⟩), .pointer (some ⟨ba0_1c0vc0, 0, none⟩)]) .nilFunc], .string a1, .agg (enc_api_Pick a2).toArray]) rfl (n := 15) rfl ?_
  refine sx_run 2 (todo' := [.inRegion (opsOf (cd26 [0])) [0, 1, 2, 3], .code (cd26 [1])]) (us := []) (by kernel_rfl) ?_
  refine r_box (c := (cd26 [0])) (i := 0) (d := (some 3)) (ty := 0) (x := (.tmp 0)) (v := .agg #[.string a0_0, cond a0_1 (.func (.func 21) #[] #[.pointer (some ⟨ba0_1c0, 0, none⟩), .pointer (some ⟨ba0_1c0vc0, 0, none⟩)]) .nilFunc, cond a0_2 (.func (.func 22) #[] #[.pointer (some ⟨ba0_1c0, 0, none⟩), .pointer (some ⟨ba0_1c0vc0, 0, none⟩)]) .nilFunc, cond a0_3 (.func (.func 23) #[] #[.pointer (some ⟨ba0_1c0, 0, none⟩), .pointer (some ⟨ba0_1c0vc0, 0, none⟩)]) .nilFunc]) (t := 31) (cs := [.string a0_0, cond a0_1 (.func (.func 21) #[] #[.pointer (some ⟨ba0_1c0, 0, none⟩), .pointer (some ⟨ba0_1c0vc0, 0, none⟩)]) .nilFunc, cond a0_2 (.func (.func 22) #[] #[.pointer (some ⟨ba0_1c0, 0, none⟩), .pointer (some ⟨ba0_1c0vc0, 0, none⟩)]) .nilFunc, cond a0_3 (.func (.func 23) #[] #[.pointer (some ⟨ba0_1c0, 0, none⟩), .pointer (some ⟨ba0_1c0vc0, 0, none⟩)]) .nilFunc]) hS0 (by kernel_rfl) (by kernel_rfl) (by kernel_rfl) (by kernel_rfl) ?_
  intro b1 w2 hS3
  refine r_box (c := (cd26 [0])) (i := 1) (d := (some 5)) (ty := 0) (x := (.tmp 2)) (v := .agg (enc_api_Pick a2).toArray) (t := 39) (cs := enc_api_Pick a2) hS3 (by kernel_rfl) (by kernel_rfl) (by kernel_rfl) (by kernel_rfl) ?_
  intro b5 w6 hS7
  refine sx_run 7 (todo' := [.inRegion (opsOf (cd26 [1, 0, 0])) [1, 2], .code (cd26 [1, 0, 1]), .code (cd26 [1, 1])]) (us := [(6, .string (⟨#[]⟩ : ByteArray)), (7, .bool false), (8, .pointer (some ⟨b1, 2, none⟩))]) (by kernel_rfl) ?_
  refine r_load (c := (cd26 [1, 0, 0])) (i := 1) (d := (some 9)) (ty := 28) (t := 28) (x := (.tmp 8)) (p := ⟨b1, 2, none⟩) (v := cond a0_2 (.func (.func 22) #[] #[.pointer (some ⟨ba0_1c0, 0, none⟩), .pointer (some ⟨ba0_1c0vc0, 0, none⟩)]) .nilFunc) (by kernel_rfl) (by kernel_rfl) (by kernel_rfl) (loads_at 2 (hS7.blk 1 rfl) (by kernel_rfl) (by kernel_rfl)) ?_
  cases a0_2
  ·skip
   have hp9 := ite_f hp0 rfl
   refine sx_run 8 (todo' := [.code (cd26 [1, 0, 1, 0, 1]), .code (cd26 [1, 1])]) (us := [(10, .bool true), (6, .string (⟨#[]⟩ : ByteArray)), (7, .bool false)]) (by kernel_rfl) ?_
   have hS10 := hS7.drop
   have hS11 := hS10.drop
   refine runs_ret (fn := Try.f26) (v := .tuple #[.string (⟨#[]⟩ : ByteArray), .bool false]) Try.func26 (by kernel_rfl) ?_
   have hr12 := (Option.some.inj hp9)
   cases hr12
   exact hR _ _ ⟨rfl, hS11⟩
  ·skip
   have hp13 := ite_t hp0 rfl
   refine sx_run 7 (todo' := [.inRegion (opsOf (cd26 [1, 1, 0])) [1, 2, 3, 4, 5, 6, 7, 8], .code (cd26 [1, 1, 1])]) (us := [(10, .bool false), (11, .pointer (some ⟨b1, 2, none⟩))]) (by kernel_rfl) ?_
   refine r_load (c := (cd26 [1, 1, 0])) (i := 1) (d := (some 12)) (ty := 28) (t := 28) (x := (.tmp 11)) (p := ⟨b1, 2, none⟩) (v := .func (.func 22) #[] #[.pointer (some ⟨ba0_1c0, 0, none⟩), .pointer (some ⟨ba0_1c0vc0, 0, none⟩)]) (by kernel_rfl) (by kernel_rfl) (by kernel_rfl) (loads_at 2 (hS7.blk 1 rfl) (by kernel_rfl) (by kernel_rfl)) ?_
   refine sx_run 1 (todo' := [.inRegion (opsOf (cd26 [1, 1, 0])) [3, 4, 5, 6, 7, 8], .code (cd26 [1, 1, 1])]) (us := [(13, .string a1)]) (by kernel_rfl) ?_
   refine r_load (c := (cd26 [1, 1, 0])) (i := 3) (d := (some 14)) (ty := 39) (t := 39) (x := (.tmp 5)) (p := ⟨b5, 0, none⟩) (v := .agg (enc_api_Pick a2).toArray) (by kernel_rfl) (by kernel_rfl) (by kernel_rfl) (loads_agg (hS7.blk 0 rfl) (by kernel_rfl) (by kernel_rfl)) ?_
   obtain ⟨⟨t14, t15⟩, hr16, hp17⟩ := bind_some' hp13
   try dsimp only at hp17
   have hS19 := hS7.pick3
   have hS20 := hS19.pick3
   refine r_call1 (c := (cd26 [1, 1, 0])) (i := 4) (d := (some 15)) (g := 22) (args := #[.string a1, .agg (enc_api_Pick a2).toArray, .pointer (some ⟨ba0_1c0, 0, none⟩), .pointer (some ⟨ba0_1c0vc0, 0, none⟩)]) (by kernel_rfl) (by kernel_rfl) (by kernel_rfl) (by kernel_rfl) (weirlaw15_Graph__Machine_3.ok a1 a2 (⟨a0_1c0vc0v.To, a0_1c0vc0v.Ends, a0_1c0vc0v.Odd, a0_1c0vc0v.Holes⟩ : weirlaw15_Graph) ba0_1c0 ba0_1c0vc0 Aa0_1c0vc0v_0 ca0_1c0vc0v_0 hS20 ha0_1c0vc0v_0 hr16) ?_
   rintro _ w21 ⟨rfl, hS22⟩
   refine ⟨.tuple #[.string t14, .bool t15], rfl, ?_⟩
   refine sx_run 5 (todo' := [.code (cd26 [1, 1, 1])]) (us := [(16, .string t14), (17, .bool t15), (6, .string t14), (7, .bool t15)]) (by kernel_rfl) ?_
   have hS23 := hS22.pick2
   have hS24 := hS23.drop
   have hS25 := hS24.pick2
   have hS26 := hS25.drop
   refine runs_ret (fn := Try.f26) (v := .tuple #[.string t14, .bool t15]) Try.func26 (by kernel_rfl) ?_
   have hr27 := (Option.some.inj hp17)
   cases hr27
   exact hR _ _ ⟨rfl, hS26⟩

noncomputable def cd8 (p : List Nat) : Code := sub (bodyOf Try.f8) p
def weirref15_Finish.l0 (a0_0 : ByteArray) (a0_1 : Bool) (a0_1c0vc0v : weirlaw15_Graph) (a0_2 : Bool) (a0_3 : Bool) (a2 : Int) (t19 : ByteArray) (t20 : List api_Pick) : Option (ByteArray × (List api_Pick)) :=
  (if (decide ((t20.length : Int) < a2)) = true then (weirref15_end.f a0_0 a0_1 (⟨a0_1c0vc0v.To, a0_1c0vc0v.Ends, a0_1c0vc0v.Odd, a0_1c0vc0v.Holes⟩ : weirlaw15_Graph) a0_2 a0_3 t19 >>= (fun (t36, t37) => (if t37 = true then some ((t19, t20)) else (if a0_1 = true then (weirlaw15_Graph__Machine_2.f t19 (⟨a0_1c0vc0v.To, a0_1c0vc0v.Ends, a0_1c0vc0v.Odd, a0_1c0vc0v.Holes⟩ : weirlaw15_Graph) >>= (fun t60 => (if ((t60.length : Int) == 0) = true then some ((t19, t20)) else (if 0 ≤ (0 : Int) ∧ (0 : Int) < (t60.length : Int) then (weirref15_step.f a0_0 true (⟨a0_1c0vc0v.To, a0_1c0vc0v.Ends, a0_1c0vc0v.Odd, a0_1c0vc0v.Holes⟩ : weirlaw15_Graph) a0_2 a0_3 t19 (gt t60 (0 : Int)) >>= (fun (t89, t90) => (if (!t90) = true then some ((t19, t20)) else (if 0 ≤ (0 : Int) ∧ (0 : Int) < (t60.length : Int) then (if (t20.length + ([(gt t60 (0 : Int))] : List api_Pick).length) * 24 ≤ 140737488355328 then (weirref15_Finish.l0 a0_0 a0_1 a0_1c0vc0v a0_2 a0_3 a2 t89 (t20 ++ ([(gt t60 (0 : Int))] : List api_Pick))) else none) else none)))) else none)))) else some ((t19, t20)))))) else some ((t19, t20)))
 partial_fixpoint
def weirref15_Finish.f (a0_0 : ByteArray) (a0_1 : Bool) (a0_1c0vc0v : weirlaw15_Graph) (a0_2 : Bool) (a0_3 : Bool) (a1 : ByteArray) (a2 : Int) : Option ((List api_Pick) × ByteArray) :=
  (weirref15_Finish.l0 a0_0 a0_1 a0_1c0vc0v a0_2 a0_3 a2 a1 [] >>= (fun (t8, t9) => some ((t9, t8))))
set_option maxHeartbeats 16000000 in
theorem weirref15_Finish.ok (a0_0 : ByteArray) (a0_1 : Bool) (a0_1c0vc0v : weirlaw15_Graph) (a0_2 : Bool) (a0_3 : Bool) (a1 : ByteArray) (a2 : Int) (ba0_1c0 : Nat) (ba0_1c0vc0 : Nat) (Aa0_1c0vc0v_0 : Option Addr) (ca0_1c0vc0v_0 : Nat) {w0 : World} {Z : Zm} {fs : List XObj} {w : World} (hS0 : St w0 Z (xblk ba0_1c0 53 ([.func (.func 20) #[] #[.pointer (some ⟨ba0_1c0vc0, 0, none⟩)]]) :: xblk ba0_1c0vc0 25 ([.slice Aa0_1c0vc0v_0 a0_1c0vc0v.To.length ca0_1c0vc0v_0, .int .u64 a0_1c0vc0v.Ends, .bool a0_1c0vc0v.Odd, .int .i64 a0_1c0vc0v.Holes]) :: fs) w) (ha0_1c0vc0v_0 : SlZ (repL (flat (encI .i64)) 1) 1 Z Aa0_1c0vc0v_0 ca0_1c0vc0v_0 a0_1c0vc0v.To) {q0 : List api_Pick} {q1 : ByteArray} (hp0 : weirref15_Finish.f a0_0 a0_1 a0_1c0vc0v a0_2 a0_3 a1 a2 = some (q0, q1)) :
    Calls Try.prog 8 #[.agg #[.string a0_0, cond a0_1 (.func (.func 21) #[] #[.pointer (some ⟨ba0_1c0, 0, none⟩), .pointer (some ⟨ba0_1c0vc0, 0, none⟩)]) .nilFunc, cond a0_2 (.func (.func 22) #[] #[.pointer (some ⟨ba0_1c0, 0, none⟩), .pointer (some ⟨ba0_1c0vc0, 0, none⟩)]) .nilFunc, cond a0_3 (.func (.func 23) #[] #[.pointer (some ⟨ba0_1c0, 0, none⟩), .pointer (some ⟨ba0_1c0vc0, 0, none⟩)]) .nilFunc], .string a1, .int .i64 a2] w (fun e w' => ∃ (QA0 : Option Addr) (Qc0 : Nat), e = .returned (.tuple #[.slice QA0 q0.length Qc0, .string q1]) ∧ St w0 Z (xrow QA0 Qc0 39 3 (q0.flatMap enc_api_Pick) :: xblk ba0_1c0 53 ([.func (.func 20) #[] #[.pointer (some ⟨ba0_1c0vc0, 0, none⟩)]]) :: xblk ba0_1c0vc0 25 ([.slice Aa0_1c0vc0v_0 a0_1c0vc0v.To.length ca0_1c0vc0v_0, .int .u64 a0_1c0vc0v.Ends, .bool a0_1c0vc0v.Odd, .int .i64 a0_1c0vc0v.Holes]) :: fs) w') := by
  refine calls_abs ?_; intro R hR
  unfold weirref15_Finish.f at hp0
  refine calls_of_runs (fn := Try.f8) (c := cd8 []) Try.func8 (by kernel_rfl) (al := [.agg #[.string a0_0, cond a0_1 (.func (.func 21) #[] #[.pointer (some ⟨ba0_1c0, 0, none⟩), .pointer (some ⟨ba0_1c0vc0, 0, none⟩)]) .nilFunc, cond a0_2 (.func (.func 22) #[] #[.pointer (some ⟨ba0_1c0, 0, none⟩), .pointer (some ⟨ba0_1c0vc0, 0, none⟩)]) .nilFunc, cond a0_3 (.func (.func 23) #[] #[.pointer (some ⟨ba0_1c0, 0, none⟩), .pointer (some ⟨ba0_1c0vc0, 0, none⟩)]) .nilFunc], .string a1, .int .i64 a2]) rfl (n := 54) rfl ?_
  refine sx_run 2 (todo' := [.inRegion (opsOf (cd8 [0])) [0, 1, 2], .code (cd8 [1])]) (us := []) (by kernel_rfl) ?_
  refine r_box (c := (cd8 [0])) (i := 0) (d := (some 3)) (ty := 0) (x := (.tmp 0)) (v := .agg #[.string a0_0, cond a0_1 (.func (.func 21) #[] #[.pointer (some ⟨ba0_1c0, 0, none⟩), .pointer (some ⟨ba0_1c0vc0, 0, none⟩)]) .nilFunc, cond a0_2 (.func (.func 22) #[] #[.pointer (some ⟨ba0_1c0, 0, none⟩), .pointer (some ⟨ba0_1c0vc0, 0, none⟩)]) .nilFunc, cond a0_3 (.func (.func 23) #[] #[.pointer (some ⟨ba0_1c0, 0, none⟩), .pointer (some ⟨ba0_1c0vc0, 0, none⟩)]) .nilFunc]) (t := 31) (cs := [.string a0_0, cond a0_1 (.func (.func 21) #[] #[.pointer (some ⟨ba0_1c0, 0, none⟩), .pointer (some ⟨ba0_1c0vc0, 0, none⟩)]) .nilFunc, cond a0_2 (.func (.func 22) #[] #[.pointer (some ⟨ba0_1c0, 0, none⟩), .pointer (some ⟨ba0_1c0vc0, 0, none⟩)]) .nilFunc, cond a0_3 (.func (.func 23) #[] #[.pointer (some ⟨ba0_1c0, 0, none⟩), .pointer (some ⟨ba0_1c0vc0, 0, none⟩)]) .nilFunc]) hS0 (by kernel_rfl) (by kernel_rfl) (by kernel_rfl) (by kernel_rfl) ?_
  intro b1 w2 hS3
  refine sx_run 10 (todo' := [.code (cd8 [1, 1, 0, 0, 0]), .inLoop (cd8 [1, 1, 0, 0, 0]), .inBlock 0, .code (cd8 [1, 1, 1])]) (us := [(6, .slice none 0 0), (7, .string (⟨#[]⟩ : ByteArray)), (8, .slice none 0 0)]) (by kernel_rfl) ?_
  obtain ⟨v5, hv6, hp7⟩ := bind_some' hp0
  have J15 : ∀ (t8 : ByteArray) (t9 : List api_Pick) (he17 : (t8, t9) = v5) (l16 : List Value) (A10 : Option Addr) (c11 : Nat) (w13 : World) (hS14 : St w0 Z (xrow A10 c11 39 3 (t9.flatMap enc_api_Pick) :: xblk ba0_1c0 53 ([.func (.func 20) #[] #[.pointer (some ⟨ba0_1c0vc0, 0, none⟩)]]) :: xblk ba0_1c0vc0 25 ([.slice Aa0_1c0vc0v_0 a0_1c0vc0v.To.length ca0_1c0vc0v_0, .int .u64 a0_1c0vc0v.Ends, .bool a0_1c0vc0v.Odd, .int .i64 a0_1c0vc0v.Holes]) :: fs) w13), Runs Try.prog 8 [.code (cd8 [1, 1, 1])] (fill [none, some (.string t8), none, none, none, none, none, none, some (.slice A10 t9.length c11), none, none, none, none, none, none, none, none, none, none, none, none, none, none, none, none, none, none, none, none, none, none, none, none, none, none, none, none, none, none, none, none, none, none, none, none, none, none, none, none, none, none, none, none, none, none, none, none] l16) w13 R := by
   intro t8 t9 he17 l16 A10 c11 w13 hS14
   subst he17
   try dsimp only at hp7
   refine sx_run 7 (todo' := [.code (cd8 [1, 1, 1, 1])]) (us := [(55, .slice A10 t9.length c11), (56, .string t8), (6, .slice A10 t9.length c11), (7, .string t8)]) (by kernel_rfl) ?_
   refine runs_ret (fn := Try.f8) (v := .tuple #[.slice A10 t9.length c11, .string t8]) Try.func8 (by kernel_rfl) ?_
   have hr18 := (Option.some.inj hp7)
   cases hr18
   exact hR _ _ ⟨A10, c11, rfl, hS14⟩
  have L32 : ∀ (t19 : ByteArray) (t20 : List api_Pick) (e27 : (ByteArray × (List api_Pick))), weirref15_Finish.l0 a0_0 a0_1 a0_1c0vc0v a0_2 a0_3 a2 t19 t20 = some e27 → e27 = v5 → ∀ (l26 : List Value) (A21 : Option Addr) (c22 : Nat) (w24 : World) (hS25 : St w0 Z (xblk b1 31 ([.string a0_0, cond a0_1 (.func (.func 21) #[] #[.pointer (some ⟨ba0_1c0, 0, none⟩), .pointer (some ⟨ba0_1c0vc0, 0, none⟩)]) .nilFunc, cond a0_2 (.func (.func 22) #[] #[.pointer (some ⟨ba0_1c0, 0, none⟩), .pointer (some ⟨ba0_1c0vc0, 0, none⟩)]) .nilFunc, cond a0_3 (.func (.func 23) #[] #[.pointer (some ⟨ba0_1c0, 0, none⟩), .pointer (some ⟨ba0_1c0vc0, 0, none⟩)]) .nilFunc]) :: xblk ba0_1c0 53 ([.func (.func 20) #[] #[.pointer (some ⟨ba0_1c0vc0, 0, none⟩)]]) :: xblk ba0_1c0vc0 25 ([.slice Aa0_1c0vc0v_0 a0_1c0vc0v.To.length ca0_1c0vc0v_0, .int .u64 a0_1c0vc0v.Ends, .bool a0_1c0vc0v.Odd, .int .i64 a0_1c0vc0v.Holes]) :: xrow A21 c22 39 3 (t20.flatMap enc_api_Pick) :: fs) w24), Runs Try.prog 8 [.code (cd8 [1, 1, 0, 0, 0]), .inLoop (cd8 [1, 1, 0, 0, 0]), .inBlock 0, .code (cd8 [1, 1, 1])] (fill [none, some (.string t19), some (.int .i64 a2), some (.pointer (some ⟨b1, 0, none⟩)), none, none, none, none, some (.slice A21 t20.length c22), none, none, none, none, none, none, none, none, none, none, none, none, none, none, none, none, none, none, none, none, none, none, none, none, none, none, none, none, none, none, none, none, none, none, none, none, none, none, none, none, none, none, none, none, none, none, none, none] l26) w24 R := by
   refine weirref15_Finish.l0.partial_correctness a0_0 a0_1 a0_1c0vc0v a0_2 a0_3 a2 (fun t19 t20 e27 => e27 = v5 → ∀ (l26 : List Value) (A21 : Option Addr) (c22 : Nat) (w24 : World) (hS25 : St w0 Z (xblk b1 31 ([.string a0_0, cond a0_1 (.func (.func 21) #[] #[.pointer (some ⟨ba0_1c0, 0, none⟩), .pointer (some ⟨ba0_1c0vc0, 0, none⟩)]) .nilFunc, cond a0_2 (.func (.func 22) #[] #[.pointer (some ⟨ba0_1c0, 0, none⟩), .pointer (some ⟨ba0_1c0vc0, 0, none⟩)]) .nilFunc, cond a0_3 (.func (.func 23) #[] #[.pointer (some ⟨ba0_1c0, 0, none⟩), .pointer (some ⟨ba0_1c0vc0, 0, none⟩)]) .nilFunc]) :: xblk ba0_1c0 53 ([.func (.func 20) #[] #[.pointer (some ⟨ba0_1c0vc0, 0, none⟩)]]) :: xblk ba0_1c0vc0 25 ([.slice Aa0_1c0vc0v_0 a0_1c0vc0v.To.length ca0_1c0vc0v_0, .int .u64 a0_1c0vc0v.Ends, .bool a0_1c0vc0v.Odd, .int .i64 a0_1c0vc0v.Holes]) :: xrow A21 c22 39 3 (t20.flatMap enc_api_Pick) :: fs) w24), Runs Try.prog 8 [.code (cd8 [1, 1, 0, 0, 0]), .inLoop (cd8 [1, 1, 0, 0, 0]), .inBlock 0, .code (cd8 [1, 1, 1])] (fill [none, some (.string t19), some (.int .i64 a2), some (.pointer (some ⟨b1, 0, none⟩)), none, none, none, none, some (.slice A21 t20.length c22), none, none, none, none, none, none, none, none, none, none, none, none, none, none, none, none, none, none, none, none, none, none, none, none, none, none, none, none, none, none, none, none, none, none, none, none, none, none, none, none, none, none, none, none, none, none, none, none] l26) w24 R) ?_
   intro rec31 ih30 t19 t20 e27 hb29 he28 l26 A21 c22 w24 hS25
   refine sx_split 7 (todo' := [.inRegion (opsOf (cd8 [1, 1, 0, 0, 0, 0, 0])) [], .code (cd8 [1, 1, 0, 0, 0, 0, 1]), .code (cd8 [1, 1, 0, 0, 0, 1]), .inLoop (cd8 [1, 1, 0, 0, 0]), .inBlock 0, .code (cd8 [1, 1, 1])]) (us := [(14, .slice A21 t20.length c22), (15, .int .i64 (t20.length : Int)), (16, .int .i64 a2)]) (d := 17) (t := (decide ((t20.length : Int) < a2))) (by kernel_rfl) (fun h33 => ?_) (fun h34 => ?_)
   ·skip
    have hp35 := ite_t hb29 h33
    refine sx_run 6 (todo' := [.inRegion (opsOf (cd8 [1, 1, 0, 0, 0, 1, 0, 0])) [0, 1, 2, 3, 4, 5, 6, 7, 8], .code (cd8 [1, 1, 0, 0, 0, 1, 0, 1]), .inBlock 1, .inLoop (cd8 [1, 1, 0, 0, 0]), .inBlock 0, .code (cd8 [1, 1, 1])]) (us := []) (by kernel_rfl) ?_
    refine r_load (c := (cd8 [1, 1, 0, 0, 0, 1, 0, 0])) (i := 0) (d := (some 19)) (ty := 31) (t := 31) (x := (.tmp 3)) (p := ⟨b1, 0, none⟩) (v := .agg #[.string a0_0, cond a0_1 (.func (.func 21) #[] #[.pointer (some ⟨ba0_1c0, 0, none⟩), .pointer (some ⟨ba0_1c0vc0, 0, none⟩)]) .nilFunc, cond a0_2 (.func (.func 22) #[] #[.pointer (some ⟨ba0_1c0, 0, none⟩), .pointer (some ⟨ba0_1c0vc0, 0, none⟩)]) .nilFunc, cond a0_3 (.func (.func 23) #[] #[.pointer (some ⟨ba0_1c0, 0, none⟩), .pointer (some ⟨ba0_1c0vc0, 0, none⟩)]) .nilFunc]) (by kernel_rfl) (by kernel_rfl) (by kernel_rfl) (loads_agg (hS25.blk 0 rfl) (by kernel_rfl) (by kernel_rfl)) ?_
    refine sx_run 1 (todo' := [.inRegion (opsOf (cd8 [1, 1, 0, 0, 0, 1, 0, 0])) [2, 3, 4, 5, 6, 7, 8], .code (cd8 [1, 1, 0, 0, 0, 1, 0, 1]), .inBlock 1, .inLoop (cd8 [1, 1, 0, 0, 0]), .inBlock 0, .code (cd8 [1, 1, 1])]) (us := [(20, .string t19)]) (by kernel_rfl) ?_
    obtain ⟨⟨t36, t37⟩, hr38, hp39⟩ := bind_some' hp35
    try dsimp only at hp39
    have hS41 := hS25.pick2
    have hS42 := hS41.pick2
    refine r_call1 (c := (cd8 [1, 1, 0, 0, 0, 1, 0, 0])) (i := 2) (d := (some 21)) (g := 25) (args := #[.agg #[.string a0_0, cond a0_1 (.func (.func 21) #[] #[.pointer (some ⟨ba0_1c0, 0, none⟩), .pointer (some ⟨ba0_1c0vc0, 0, none⟩)]) .nilFunc, cond a0_2 (.func (.func 22) #[] #[.pointer (some ⟨ba0_1c0, 0, none⟩), .pointer (some ⟨ba0_1c0vc0, 0, none⟩)]) .nilFunc, cond a0_3 (.func (.func 23) #[] #[.pointer (some ⟨ba0_1c0, 0, none⟩), .pointer (some ⟨ba0_1c0vc0, 0, none⟩)]) .nilFunc], .string t19]) (by kernel_rfl) (by kernel_rfl) (by kernel_rfl) (by kernel_rfl) (weirref15_end.ok a0_0 a0_1 (⟨a0_1c0vc0v.To, a0_1c0vc0v.Ends, a0_1c0vc0v.Odd, a0_1c0vc0v.Holes⟩ : weirlaw15_Graph) a0_2 a0_3 t19 ba0_1c0 ba0_1c0vc0 Aa0_1c0vc0v_0 ca0_1c0vc0v_0 hS42 ha0_1c0vc0v_0 hr38) ?_
    rintro _ w43 ⟨rfl, hS44⟩
    refine ⟨.tuple #[.agg (enc_api_Final t36).toArray, .bool t37], rfl, ?_⟩
    refine sx_run 3 (todo' := [.inRegion (opsOf (cd8 [1, 1, 0, 0, 0, 1, 0, 0])) [6, 7, 8], .code (cd8 [1, 1, 0, 0, 0, 1, 0, 1]), .inBlock 1, .inLoop (cd8 [1, 1, 0, 0, 0]), .inBlock 0, .code (cd8 [1, 1, 1])]) (us := [(18, .tuple #[.agg (enc_api_Final t36).toArray, .bool t37]), (22, .agg (enc_api_Final t36).toArray), (23, .bool t37)]) (by kernel_rfl) ?_
    refine r_alloc (c := (cd8 [1, 1, 0, 0, 0, 1, 0, 0])) (i := 6) (d := (some 9)) (ty := 0) (z := .agg (enc_api_Final (⟨0, (Vector.replicate 48 0)⟩ : api_Final)).toArray) (t := 46) (cs := enc_api_Final (⟨0, (Vector.replicate 48 0)⟩ : api_Final)) hS44 (by kernel_rfl) (by kernel_rfl) (by kernel_rfl) (by kernel_rfl) ?_
    intro b45 w46 hS47
    refine r_store (c := (cd8 [1, 1, 0, 0, 0, 1, 0, 0])) (i := 7) (d := none) (ty := 0) (t := 46) (x := (.tmp 9)) (y := (.tmp 22)) (b := b45) (o := 0) (e := 46) (cs := enc_api_Final (⟨0, (Vector.replicate 48 0)⟩ : api_Final)) (v := .agg (enc_api_Final t36).toArray) (vs := enc_api_Final t36) (cs' := enc_api_Final t36) hS47 (by kernel_rfl) (by kernel_rfl) (by kernel_rfl) (by kernel_rfl) (by kernel_rfl) (lenK (len_api_Final _) (by kernel_rfl)) (one_api_Final _) (by simp only [len_api_Final, List.length_cons, List.length_nil, List.length_append]; omega) (over_all ((len_api_Final _).trans (len_api_Final _).symm)) ?_
    intro w49 hS50
    refine sx_run 7 (todo' := [.inRegion (opsOf (cd8 [1, 1, 0, 0, 0, 1, 0, 1, 0, 0])) [2, 3, 4, 5], .code (cd8 [1, 1, 0, 0, 0, 1, 0, 1, 0, 1]), .code (cd8 [1, 1, 0, 0, 0, 1, 0, 1, 1]), .inBlock 1, .inLoop (cd8 [1, 1, 0, 0, 0]), .inBlock 0, .code (cd8 [1, 1, 1])]) (us := [(10, .bool t37), (24, .bool t37), (25, .bool t37)]) (by kernel_rfl) ?_
    cases t37
    ·skip
     have hp51 := ite_f hp39 rfl
     refine sx_run 1 (todo' := [.inRegion (opsOf (cd8 [1, 1, 0, 0, 0, 1, 0, 1, 0, 0])) [3, 4, 5], .code (cd8 [1, 1, 0, 0, 0, 1, 0, 1, 0, 1]), .code (cd8 [1, 1, 0, 0, 0, 1, 0, 1, 1]), .inBlock 1, .inLoop (cd8 [1, 1, 0, 0, 0]), .inBlock 0, .code (cd8 [1, 1, 1])]) (us := [(26, .pointer (some ⟨b1, 1, none⟩))]) (by kernel_rfl) ?_
     refine r_load (c := (cd8 [1, 1, 0, 0, 0, 1, 0, 1, 0, 0])) (i := 3) (d := (some 27)) (ty := 27) (t := 27) (x := (.tmp 26)) (p := ⟨b1, 1, none⟩) (v := cond a0_1 (.func (.func 21) #[] #[.pointer (some ⟨ba0_1c0, 0, none⟩), .pointer (some ⟨ba0_1c0vc0, 0, none⟩)]) .nilFunc) (by kernel_rfl) (by kernel_rfl) (by kernel_rfl) (loads_at 1 (hS50.blk 3 rfl) (by kernel_rfl) (by kernel_rfl)) ?_
     cases a0_1
     ·skip
      have hp52 := ite_f hp51 rfl
      refine sx_run 5 (todo' := [.code (cd8 [1, 1, 1])]) (us := [(28, .bool true), (29, .bool true)]) (by kernel_rfl) ?_
      have hS53 := hS50.drop
      have hS54 := hS53.pick2
      have hS55 := hS54.drop
      have hS56 := hS55.pick1
      have hS57 := hS56.pick1
      have hS58 := hS57.pick2
      refine Runs.fill (m := [none, some (.string t19), none, none, none, none, none, none, some (.slice A21 t20.length c22), none, none, none, none, none, none, none, none, none, none, none, none, none, none, none, none, none, none, none, none, none, none, none, none, none, none, none, none, none, none, none, none, none, none, none, none, none, none, none, none, none, none, none, none, none, none, none, none]) (by kernel_rfl) ?_
      exact J15 t19 t20 ((Option.some.inj hp52).trans he28) _ A21 c22 _ hS58
     ·skip
      have hp59 := ite_t hp51 rfl
      refine sx_run 8 (todo' := [.inRegion (opsOf (cd8 [1, 1, 0, 0, 0, 1, 0, 1, 1, 0])) [1, 2, 3, 4], .code (cd8 [1, 1, 0, 0, 0, 1, 0, 1, 1, 1]), .inBlock 1, .inLoop (cd8 [1, 1, 0, 0, 0]), .inBlock 0, .code (cd8 [1, 1, 1])]) (us := [(28, .bool false), (29, .bool false), (30, .pointer (some ⟨b1, 1, none⟩))]) (by kernel_rfl) ?_
      refine r_load (c := (cd8 [1, 1, 0, 0, 0, 1, 0, 1, 1, 0])) (i := 1) (d := (some 31)) (ty := 27) (t := 27) (x := (.tmp 30)) (p := ⟨b1, 1, none⟩) (v := .func (.func 21) #[] #[.pointer (some ⟨ba0_1c0, 0, none⟩), .pointer (some ⟨ba0_1c0vc0, 0, none⟩)]) (by kernel_rfl) (by kernel_rfl) (by kernel_rfl) (loads_at 1 (hS50.blk 3 rfl) (by kernel_rfl) (by kernel_rfl)) ?_
      refine sx_run 1 (todo' := [.inRegion (opsOf (cd8 [1, 1, 0, 0, 0, 1, 0, 1, 1, 0])) [3, 4], .code (cd8 [1, 1, 0, 0, 0, 1, 0, 1, 1, 1]), .inBlock 1, .inLoop (cd8 [1, 1, 0, 0, 0]), .inBlock 0, .code (cd8 [1, 1, 1])]) (us := [(32, .string t19)]) (by kernel_rfl) ?_
      obtain ⟨t60, hr63, hp64⟩ := bind_some' hp59
      have hS67 := hS50.pick2
      have hS68 := hS67.pick2
      refine r_call1 (c := (cd8 [1, 1, 0, 0, 0, 1, 0, 1, 1, 0])) (i := 3) (d := (some 33)) (g := 21) (args := #[.string t19, .pointer (some ⟨ba0_1c0, 0, none⟩), .pointer (some ⟨ba0_1c0vc0, 0, none⟩)]) (by kernel_rfl) (by kernel_rfl) (by kernel_rfl) (by kernel_rfl) (weirlaw15_Graph__Machine_2.ok t19 (⟨a0_1c0vc0v.To, a0_1c0vc0v.Ends, a0_1c0vc0v.Odd, a0_1c0vc0v.Holes⟩ : weirlaw15_Graph) ba0_1c0 ba0_1c0vc0 Aa0_1c0vc0v_0 ca0_1c0vc0v_0 hS68 ha0_1c0vc0v_0 hr63) ?_
      rintro _ w69 ⟨Q61, Q62, rfl, hS70⟩
      refine ⟨.slice Q61 t60.length Q62, rfl, ?_⟩
      refine sx_split 8 (todo' := [.inRegion (opsOf (cd8 [1, 1, 0, 0, 0, 1, 0, 1, 1, 1, 0, 0])) [], .code (cd8 [1, 1, 0, 0, 0, 1, 0, 1, 1, 1, 0, 1]), .code (cd8 [1, 1, 0, 0, 0, 1, 0, 1, 1, 1, 1]), .inBlock 1, .inLoop (cd8 [1, 1, 0, 0, 0]), .inBlock 0, .code (cd8 [1, 1, 1])]) (us := [(11, .slice Q61 t60.length Q62), (34, .slice Q61 t60.length Q62), (35, .int .i64 (t60.length : Int))]) (d := 36) (t := ((t60.length : Int) == 0)) (by kernel_rfl) (fun h71 => ?_) (fun h72 => ?_)
      ·skip
       have hp73 := ite_t hp64 h71
       refine sx_run 3 (todo' := [.code (cd8 [1, 1, 1])]) (us := []) (by kernel_rfl) ?_
       have hS74 := hS70.drop
       have hS75 := hS74.pick2
       have hS76 := hS75.drop
       have hS77 := hS76.pick2
       have hS78 := hS77.drop
       have hS79 := hS78.pick1
       have hS80 := hS79.pick1
       have hS81 := hS80.pick2
       refine Runs.fill (m := [none, some (.string t19), none, none, none, none, none, none, some (.slice A21 t20.length c22), none, none, none, none, none, none, none, none, none, none, none, none, none, none, none, none, none, none, none, none, none, none, none, none, none, none, none, none, none, none, none, none, none, none, none, none, none, none, none, none, none, none, none, none, none, none, none, none]) (by kernel_rfl) ?_
       exact J15 t19 t20 ((Option.some.inj hp73).trans he28) _ A21 c22 _ hS81
      ·skip
       have hp82 := ite_f hp64 h72
       refine sx_run 4 (todo' := [.code (cd8 [1, 1, 0, 0, 0, 1, 0, 1, 1, 1, 1, 0]), .code (cd8 [1, 1, 0, 0, 0, 1, 0, 1, 1, 1, 1, 1]), .inBlock 1, .inLoop (cd8 [1, 1, 0, 0, 0]), .inBlock 0, .code (cd8 [1, 1, 1])]) (us := []) (by kernel_rfl) ?_
       refine r_quiet hS70 (c := (cd8 [1, 1, 0, 0, 0, 1, 0, 1, 1, 1, 1, 0])) (id := 7) (by kernel_rfl) (by kernel_rfl) (by kernel_rfl) (is := [0, 1, 2, 3, 4, 5, 6, 7, 8, 9, 10]) (by kernel_rfl) ?_
       refine q_load (c := (cd8 [1, 1, 0, 0, 0, 1, 0, 1, 1, 1, 1, 0])) (i := 0) (d := (some 38)) (ty := 31) (t := 31) (x := (.tmp 3)) (p := ⟨b1, 0, none⟩) (v := .agg #[.string a0_0, .func (.func 21) #[] #[.pointer (some ⟨ba0_1c0, 0, none⟩), .pointer (some ⟨ba0_1c0vc0, 0, none⟩)], cond a0_2 (.func (.func 22) #[] #[.pointer (some ⟨ba0_1c0, 0, none⟩), .pointer (some ⟨ba0_1c0vc0, 0, none⟩)]) .nilFunc, cond a0_3 (.func (.func 23) #[] #[.pointer (some ⟨ba0_1c0, 0, none⟩), .pointer (some ⟨ba0_1c0vc0, 0, none⟩)]) .nilFunc]) (by kernel_rfl) (by kernel_rfl) (by kernel_rfl) (fun w hC => (loads_agg (hC.blk 4 rfl) (by kernel_rfl) (by kernel_rfl))) ?_
       refine q_run 2 (is' := [3, 4, 5, 6, 7, 8, 9, 10]) (us := [(39, .string t19), (40, .slice Q61 t60.length Q62)]) (by kernel_rfl) ?_
       obtain ⟨g83, hp84⟩ := ite_some hp82
       obtain ⟨b85, p86, hA87, -⟩ := (hS70.row 0 rfl).at_ len_api_Pick (by omega) g83.1 g83.2
       refine q_indexAddr (c := (cd8 [1, 1, 0, 0, 0, 1, 0, 1, 1, 1, 1, 0])) (i := 3) (d := (some 41)) (ty := 0) (t := 33) (e := 39) (n := t60.length) (cp := Q62) (sz := 3) (kk := .i64) (x := (.tmp 40)) (y := (.const (.int .i64 0))) (b := b85) (o' := p86) (j := (0 : Int)) (by kernel_rfl) (by kernel_rfl) (slv (by kernel_rfl) hA87) (by kernel_rfl) (by kernel_rfl) (by kernel_rfl) g83.1 g83.2 ?_
       refine q_load (c := (cd8 [1, 1, 0, 0, 0, 1, 0, 1, 1, 1, 1, 0])) (i := 4) (d := (some 42)) (ty := 39) (t := 39) (x := (.tmp 41)) (p := ⟨b85, p86 + (0 : Int).toNat * 3, none⟩) (v := .agg (enc_api_Pick (gt t60 (0 : Int))).toArray) (by kernel_rfl) (by kernel_rfl) (by kernel_rfl) (fun w hC => (loads_agg ((hC.row 0 rfl).at2 hA87 len_api_Pick (by omega) g83.1 g83.2) (by kernel_rfl) (by kernel_rfl))) ?_
       obtain ⟨⟨t89, t90⟩, hr91, hp92⟩ := bind_some' hp84
       try dsimp only at hp92
       refine q_call1 (c := (cd8 [1, 1, 0, 0, 0, 1, 0, 1, 1, 1, 1, 0])) (i := 5) (d := (some 43)) (v := .tuple #[.string t89, .bool t90]) (g := 26) (args := #[.agg #[.string a0_0, .func (.func 21) #[] #[.pointer (some ⟨ba0_1c0, 0, none⟩), .pointer (some ⟨ba0_1c0vc0, 0, none⟩)], cond a0_2 (.func (.func 22) #[] #[.pointer (some ⟨ba0_1c0, 0, none⟩), .pointer (some ⟨ba0_1c0vc0, 0, none⟩)]) .nilFunc, cond a0_3 (.func (.func 23) #[] #[.pointer (some ⟨ba0_1c0, 0, none⟩), .pointer (some ⟨ba0_1c0vc0, 0, none⟩)]) .nilFunc], .string t19, .agg (enc_api_Pick (gt t60 (0 : Int))).toArray]) (by kernel_rfl) (by kernel_rfl) (by kernel_rfl) (by kernel_rfl) (fun w hC => by
        have hS94 := hC.pick2
        have hS95 := hS94.pick2
        refine (weirref15_step.ok a0_0 true (⟨a0_1c0vc0v.To, a0_1c0vc0v.Ends, a0_1c0vc0v.Odd, a0_1c0vc0v.Holes⟩ : weirlaw15_Graph) a0_2 a0_3 t19 (gt t60 (0 : Int)) ba0_1c0 ba0_1c0vc0 Aa0_1c0vc0v_0 ca0_1c0vc0v_0 hS95 ha0_1c0vc0v_0 hr91).mono ?_
        rintro e w2 ⟨rfl, h2⟩
        have hS96 := h2.pick5
        have hS97 := hS96.pick5
        have hS98 := hS97.pick5
        have hS99 := hS98.pick4
        have hS100 := hS99.pick4
        have hS101 := hS100.pick5
        exact ⟨rfl, hS101⟩) ?_
       refine q_run 5 (is' := []) (us := [(37, .tuple #[.string t89, .bool t90]), (44, .string t89), (45, .bool t90), (12, .string t89), (13, .bool t90)]) (by kernel_rfl) ?_
       refine Qs.nil ?_
       intro w102 hS103
       refine sx_split 5 (todo' := [.inRegion (opsOf (cd8 [1, 1, 0, 0, 0, 1, 0, 1, 1, 1, 1, 1, 0, 0])) [], .code (cd8 [1, 1, 0, 0, 0, 1, 0, 1, 1, 1, 1, 1, 0, 1]), .code (cd8 [1, 1, 0, 0, 0, 1, 0, 1, 1, 1, 1, 1, 1]), .inBlock 1, .inLoop (cd8 [1, 1, 0, 0, 0]), .inBlock 0, .code (cd8 [1, 1, 1])]) (us := [(46, .bool t90)]) (d := 47) (t := (!t90)) (by kernel_rfl) (fun h104 => ?_) (fun h105 => ?_)
       ·skip
        have hp106 := ite_t hp92 h104
        refine sx_run 3 (todo' := [.code (cd8 [1, 1, 1])]) (us := []) (by kernel_rfl) ?_
        have hS107 := hS103.drop
        have hS108 := hS107.pick2
        have hS109 := hS108.drop
        have hS110 := hS109.pick2
        have hS111 := hS110.drop
        have hS112 := hS111.pick1
        have hS113 := hS112.pick1
        have hS114 := hS113.pick2
        refine Runs.fill (m := [none, some (.string t19), none, none, none, none, none, none, some (.slice A21 t20.length c22), none, none, none, none, none, none, none, none, none, none, none, none, none, none, none, none, none, none, none, none, none, none, none, none, none, none, none, none, none, none, none, none, none, none, none, none, none, none, none, none, none, none, none, none, none, none, none, none]) (by kernel_rfl) ?_
        exact J15 t19 t20 ((Option.some.inj hp106).trans he28) _ A21 c22 _ hS114
       ·skip
        have hp115 := ite_f hp92 h105
        refine sx_run 7 (todo' := [.inRegion (opsOf (cd8 [1, 1, 0, 0, 0, 1, 0, 1, 1, 1, 1, 1, 1, 0])) [2, 3, 4, 5, 6], .code (cd8 [1, 1, 0, 0, 0, 1, 0, 1, 1, 1, 1, 1, 1, 1]), .inBlock 1, .inLoop (cd8 [1, 1, 0, 0, 0]), .inBlock 0, .code (cd8 [1, 1, 1])]) (us := [(48, .slice A21 t20.length c22), (49, .slice Q61 t60.length Q62)]) (by kernel_rfl) ?_
        obtain ⟨g116, hp117⟩ := ite_some hp115
        obtain ⟨b118, p119, hA120, -⟩ := (hS103.row 0 rfl).at_ len_api_Pick (by omega) g116.1 g116.2
        refine r_indexAddr (c := (cd8 [1, 1, 0, 0, 0, 1, 0, 1, 1, 1, 1, 1, 1, 0])) (i := 2) (d := (some 50)) (ty := 0) (t := 33) (e := 39) (n := t60.length) (cp := Q62) (sz := 3) (kk := .i64) (x := (.tmp 49)) (y := (.const (.int .i64 0))) (b := b118) (o' := p119) (j := (0 : Int)) (by kernel_rfl) (by kernel_rfl) (slv (by kernel_rfl) hA120) (by kernel_rfl) (by kernel_rfl) (by kernel_rfl) g116.1 g116.2 ?_
        refine r_load (c := (cd8 [1, 1, 0, 0, 0, 1, 0, 1, 1, 1, 1, 1, 1, 0])) (i := 3) (d := (some 51)) (ty := 39) (t := 39) (x := (.tmp 50)) (p := ⟨b118, p119 + (0 : Int).toNat * 3, none⟩) (v := .agg (enc_api_Pick (gt t60 (0 : Int))).toArray) (by kernel_rfl) (by kernel_rfl) (by kernel_rfl) (loads_agg ((hS103.row 0 rfl).at2 hA120 len_api_Pick (by omega) g116.1 g116.2) (by kernel_rfl) (by kernel_rfl)) ?_
        refine r_lit (c := (cd8 [1, 1, 0, 0, 0, 1, 0, 1, 1, 1, 1, 1, 1, 0])) (i := 4) (d := (some 52)) (ty := 33) (t := 33) (e := 39) (sz := 3) (n := 1) (parts := #[(0, (.tmp 51))]) (vs := [(0, .agg (enc_api_Pick (gt t60 (0 : Int))).toArray)]) (z := zeroOf Try.prog 39) (cs' := ([(gt t60 (0 : Int))] : List api_Pick).flatMap enc_api_Pick) hS103 (by kernel_rfl) (by kernel_rfl) (by kernel_rfl) (by kernel_rfl) (by kernel_rfl) (by decide) (by decide) (by kernel_rfl) rfl (Parts.cons (c := enc_api_Pick (gt t60 (0 : Int))) (by kernel_rfl) (len_api_Pick _) Parts.nil) rfl ?_
        intro b123 w124 hS125
        have hS126 := hS125.pick6
        obtain ⟨g127, hp128⟩ := ite_some hp117
        refine r_append (c := (cd8 [1, 1, 0, 0, 0, 1, 0, 1, 1, 1, 1, 1, 1, 0])) (i := 5) (d := (some 53)) (ty := 33) (enc := enc_api_Pick) (e := 39) (u := 39) (t := 33) (t2 := 33) (sz := 3) (cp := c22) (A := A21) (bytes := 24) (xs := t20) (ys := ([(gt t60 (0 : Int))] : List api_Pick)) (s := (.tmp 48)) (x := (.tmp 52)) (xv := .slice (some ⟨b123, 0, none⟩) ([(gt t60 (0 : Int))] : List api_Pick).length 1) (info := infoOf Try.prog 39) (z := zeroOf Try.prog 39) (ycs := ([(gt t60 (0 : Int))] : List api_Pick).flatMap enc_api_Pick) hS126 (by kernel_rfl) (by kernel_rfl) (by kernel_rfl) (by kernel_rfl) (by kernel_rfl) (.inl (by kernel_rfl)) (by kernel_rfl) (by kernel_rfl) (by kernel_rfl) (by kernel_rfl) (by kernel_rfl) (by omega) len_api_Pick one_api_Pick (src_row (hS126.row 1 rfl) (by omega) len_api_Pick) rfl g127 (by omega) ?_
        intro A129 c130 w131 hS132
        refine sx_run 7 (todo' := [.inLoop (cd8 [1, 1, 0, 0, 0]), .inBlock 0, .code (cd8 [1, 1, 1])]) (us := [(8, .slice A129 (t20 ++ ([(gt t60 (0 : Int))] : List api_Pick)).length c130), (54, .string t89), (1, .string t89)]) (by kernel_rfl) ?_
        have hS134 := hS132.pick1
        have hS135 := hS134.drop
        have hS136 := hS135.pick1
        have hS137 := hS136.drop
        have hS138 := hS137.pick3
        have hS139 := hS138.drop
        have hS140 := hS139.pick2
        have hS141 := hS140.pick2
        have hS142 := hS141.pick3
        refine sx_run 1 (todo' := [.code (cd8 [1, 1, 0, 0, 0]), .inLoop (cd8 [1, 1, 0, 0, 0]), .inBlock 0, .code (cd8 [1, 1, 1])]) (us := []) (by kernel_rfl) ?_
        refine Runs.fill (m := [none, some (.string t89), some (.int .i64 a2), some (.pointer (some ⟨b1, 0, none⟩)), none, none, none, none, some (.slice A129 (t20 ++ ([(gt t60 (0 : Int))] : List api_Pick)).length c130), none, none, none, none, none, none, none, none, none, none, none, none, none, none, none, none, none, none, none, none, none, none, none, none, none, none, none, none, none, none, none, none, none, none, none, none, none, none, none, none, none, none, none, none, none, none, none, none]) (by kernel_rfl) ?_
        exact ih30 t89 (t20 ++ ([(gt t60 (0 : Int))] : List api_Pick)) _ hp128 he28 _ A129 c130 _ hS142
    ·skip
     have hp143 := ite_t hp39 rfl
     refine sx_run 7 (todo' := [.code (cd8 [1, 1, 1])]) (us := [(26, undef), (27, undef), (28, undef), (29, .bool true)]) (by kernel_rfl) ?_
     have hS144 := hS50.drop
     have hS145 := hS144.pick2
     have hS146 := hS145.drop
     have hS147 := hS146.pick1
     have hS148 := hS147.pick1
     have hS149 := hS148.pick2
     refine Runs.fill (m := [none, some (.string t19), none, none, none, none, none, none, some (.slice A21 t20.length c22), none, none, none, none, none, none, none, none, none, none, none, none, none, none, none, none, none, none, none, none, none, none, none, none, none, none, none, none, none, none, none, none, none, none, none, none, none, none, none, none, none, none, none, none, none, none, none, none]) (by kernel_rfl) ?_
     exact J15 t19 t20 ((Option.some.inj hp143).trans he28) _ A21 c22 _ hS149
   ·skip
    have hp150 := ite_f hb29 h34
    refine sx_run 3 (todo' := [.code (cd8 [1, 1, 1])]) (us := []) (by kernel_rfl) ?_
    have hS151 := hS25.drop
    have hS152 := hS151.pick1
    have hS153 := hS152.pick1
    have hS154 := hS153.pick2
    refine Runs.fill (m := [none, some (.string t19), none, none, none, none, none, none, some (.slice A21 t20.length c22), none, none, none, none, none, none, none, none, none, none, none, none, none, none, none, none, none, none, none, none, none, none, none, none, none, none, none, none, none, none, none, none, none, none, none, none, none, none, none, none, none, none, none, none, none, none, none, none]) (by kernel_rfl) ?_
    exact J15 t19 t20 ((Option.some.inj hp150).trans he28) _ A21 c22 _ hS154
  have hS156 := hS3.nilrow none 39 3
  have hS157 := hS156.pick3
  have hS158 := hS157.pick3
  have hS159 := hS158.pick3
  refine Runs.fill (m := [none, some (.string a1), some (.int .i64 a2), some (.pointer (some ⟨b1, 0, none⟩)), none, none, none, none, some (.slice none 0 0), none, none, none, none, none, none, none, none, none, none, none, none, none, none, none, none, none, none, none, none, none, none, none, none, none, none, none, none, none, none, none, none, none, none, none, none, none, none, none, none, none, none, none, none, none, none, none, none]) (by kernel_rfl) ?_
  exact L32 a1 [] _ hv6 rfl _ none 0 _ hS159

noncomputable def cd9 (p : List Nat) : Code := sub (bodyOf Try.f9) p
def weirlaw11_SamePicks.l0 (a0 : List api_Pick) (a1 : List api_Pick) (t16 : Int) : Option (Sum Unit Bool) :=
  (if (decide (t16 < (a0.length : Int))) = true then (if 0 ≤ t16 ∧ t16 < (a0.length : Int) then (if 0 ≤ t16 ∧ t16 < (a1.length : Int) then (if (!(decide ((gt a0 t16) = (gt a1 t16)))) = true then some (.inr (false)) else (weirlaw11_SamePicks.l0 a0 a1 (IntKind.i64.wrap (t16 + 1)))) else none) else none) else some (.inl ()))
 partial_fixpoint
def weirlaw11_SamePicks.f (a0 : List api_Pick) (a1 : List api_Pick) : Option Bool :=
  (if ((a0.length : Int) != (a1.length : Int)) = true then some (false) else (weirlaw11_SamePicks.l0 a0 a1 0 >>= (fun | .inl () => some (true) | .inr e => some e)))
set_option maxHeartbeats 16000000 in
theorem weirlaw11_SamePicks.ok (a0 : List api_Pick) (a1 : List api_Pick) (Aa0 : Option Addr) (ca0 : Nat) (Aa1 : Option Addr) (ca1 : Nat) {w0 : World} {Z : Zm} {fs : List XObj} {w : World} (hS0 : St w0 Z (fs) w) (ha0 : SlZ (flat enc_api_Pick) 3 Z Aa0 ca0 a0) (ha1 : SlZ (flat enc_api_Pick) 3 Z Aa1 ca1 a1) {q0 : Bool} (hp0 : weirlaw11_SamePicks.f a0 a1 = some q0) :
    Calls Try.prog 9 #[.slice Aa0 a0.length ca0, .slice Aa1 a1.length ca1] w (fun e w' => e = .returned (.bool q0) ∧ St w0 Z (fs) w') := by
  refine calls_abs ?_; intro R hR
  unfold weirlaw11_SamePicks.f at hp0
  refine calls_of_runs (fn := Try.f9) (c := cd9 []) Try.func9 (by kernel_rfl) (al := [.slice Aa0 a0.length ca0, .slice Aa1 a1.length ca1]) rfl (n := 24) rfl ?_
  refine sx_split 12 (todo' := [.inRegion (opsOf (cd9 [1, 0, 0])) [], .code (cd9 [1, 0, 1]), .code (cd9 [1, 1])]) (us := [(4, .bool false), (6, .slice Aa0 a0.length ca0), (7, .int .i64 (a0.length : Int)), (8, .slice Aa1 a1.length ca1), (9, .int .i64 (a1.length : Int))]) (d := 10) (t := ((a0.length : Int) != (a1.length : Int))) (by kernel_rfl) (fun h1 => ?_) (fun h2 => ?_)
  ·skip
   have hp3 := ite_t hp0 h1
   refine sx_run 6 (todo' := [.code (cd9 [1, 0, 1, 0, 1]), .code (cd9 [1, 1])]) (us := [(4, .bool false)]) (by kernel_rfl) ?_
   refine runs_ret (fn := Try.f9) (v := .bool false) Try.func9 (by kernel_rfl) ?_
   have hr4 := (Option.some.inj hp3)
   cases hr4
   exact hR _ _ ⟨rfl, hS0⟩
  ·skip
   have hp5 := ite_f hp0 h2
   refine sx_run 10 (todo' := [.code (cd9 [1, 1, 0, 1, 0, 0]), .inLoop (cd9 [1, 1, 0, 1, 0, 0]), .inBlock 0, .code (cd9 [1, 1, 1])]) (us := [(5, .int .i64 0)]) (by kernel_rfl) ?_
   obtain ⟨v6, hv7, hp8⟩ := bind_some' hp5
   have hq11 : ∀ x, Sum.inr x = v6 → x = q0 := by intro x hx; subst hx; simpa using hp8
   have J12 : ∀ (he14 : Sum.inl () = v6) (l13 : List Value) (w9 : World) (hS10 : St w0 Z (fs) w9), Runs Try.prog 9 [.code (cd9 [1, 1, 1])] (fill [none, none, none, none, none, none, none, none, none, none, none, none, none, none, none, none, none, none, none, none, none, none, none, none, none, none] l13) w9 R := by
    intro he14 l13 w9 hS10
    subst he14
    try dsimp only at hp8
    refine sx_run 4 (todo' := [.code (cd9 [1, 1, 1, 1])]) (us := [(4, .bool true)]) (by kernel_rfl) ?_
    refine runs_ret (fn := Try.f9) (v := .bool true) Try.func9 (by kernel_rfl) ?_
    have hr15 := (Option.some.inj hp8)
    cases hr15
    exact hR _ _ ⟨rfl, hS10⟩
   have L25 : ∀ (t16 : Int) (e20 : Sum Unit Bool), weirlaw11_SamePicks.l0 a0 a1 t16 = some e20 → e20 = v6 → ∀ (l19 : List Value) (w17 : World) (hS18 : St w0 Z (fs) w17), Runs Try.prog 9 [.code (cd9 [1, 1, 0, 1, 0, 0]), .inLoop (cd9 [1, 1, 0, 1, 0, 0]), .inBlock 0, .code (cd9 [1, 1, 1])] (fill [some (.slice Aa0 a0.length ca0), some (.slice Aa1 a1.length ca1), none, none, none, some (.int .i64 t16), none, none, none, none, none, none, none, none, none, none, none, none, none, none, none, none, none, none, none, none] l19) w17 R := by
    refine weirlaw11_SamePicks.l0.partial_correctness a0 a1 (fun t16 e20 => e20 = v6 → ∀ (l19 : List Value) (w17 : World) (hS18 : St w0 Z (fs) w17), Runs Try.prog 9 [.code (cd9 [1, 1, 0, 1, 0, 0]), .inLoop (cd9 [1, 1, 0, 1, 0, 0]), .inBlock 0, .code (cd9 [1, 1, 1])] (fill [some (.slice Aa0 a0.length ca0), some (.slice Aa1 a1.length ca1), none, none, none, some (.int .i64 t16), none, none, none, none, none, none, none, none, none, none, none, none, none, none, none, none, none, none, none, none] l19) w17 R) ?_
    intro rec24 ih23 t16 e20 hb22 he21 l19 w17 hS18
    have hq26 : ∀ x, Sum.inr x = e20 → x = q0 := fun x hx => hq11 x (hx.trans he21)
    refine sx_split 7 (todo' := [.inRegion (opsOf (cd9 [1, 1, 0, 1, 0, 0, 0, 0])) [], .code (cd9 [1, 1, 0, 1, 0, 0, 0, 1]), .code (cd9 [1, 1, 0, 1, 0, 0, 1]), .inLoop (cd9 [1, 1, 0, 1, 0, 0]), .inBlock 0, .code (cd9 [1, 1, 1])]) (us := [(11, .int .i64 t16), (12, .slice Aa0 a0.length ca0), (13, .int .i64 (a0.length : Int))]) (d := 14) (t := (decide (t16 < (a0.length : Int)))) (by kernel_rfl) (fun h27 => ?_) (fun h28 => ?_)
    ·skip
     have hp29 := ite_t hb22 h27
     refine sx_run 6 (todo' := [.code (cd9 [1, 1, 0, 1, 0, 0, 1, 0, 0, 0]), .code (cd9 [1, 1, 0, 1, 0, 0, 1, 0, 0, 1]), .inBlock 1, .code (cd9 [1, 1, 0, 1, 0, 0, 1, 1]), .inLoop (cd9 [1, 1, 0, 1, 0, 0]), .inBlock 0, .code (cd9 [1, 1, 1])]) (us := []) (by kernel_rfl) ?_
     refine r_quiet hS18 (c := (cd9 [1, 1, 0, 1, 0, 0, 1, 0, 0, 0])) (id := 6) (by kernel_rfl) (by kernel_rfl) (by kernel_rfl) (is := [0, 1, 2, 3, 4, 5, 6, 7, 8]) (by kernel_rfl) ?_
     refine q_run 2 (is' := [2, 3, 4, 5, 6, 7, 8]) (us := [(17, .slice Aa0 a0.length ca0), (18, .int .i64 t16)]) (by kernel_rfl) ?_
     obtain ⟨g30, hp31⟩ := ite_some hp29
     obtain ⟨b32, p33, hA34, hc35⟩ := ha0.atF g30.1 g30.2
     refine q_indexAddr (c := (cd9 [1, 1, 0, 1, 0, 0, 1, 0, 0, 0])) (i := 2) (d := (some 19)) (ty := 0) (t := 33) (e := 39) (n := a0.length) (cp := ca0) (sz := 3) (kk := .i64) (x := (.tmp 17)) (y := (.tmp 18)) (b := b32) (o' := p33) (j := t16) (by kernel_rfl) (by kernel_rfl) (slv (by kernel_rfl) hA34) (by kernel_rfl) (by kernel_rfl) (by kernel_rfl) g30.1 g30.2 ?_
     refine q_load (c := (cd9 [1, 1, 0, 1, 0, 0, 1, 0, 0, 0])) (i := 3) (d := (some 20)) (ty := 39) (t := 39) (x := (.tmp 19)) (p := ⟨b32, p33 + t16.toNat * 3, none⟩) (v := .agg (enc_api_Pick (gt a0 t16)).toArray) (by kernel_rfl) (by kernel_rfl) (by kernel_rfl) (fun w hC => (loads_agg (hc35.cells hC) (by kernel_rfl) (by kernel_rfl))) ?_
     refine q_run 2 (is' := [6, 7, 8]) (us := [(21, .slice Aa1 a1.length ca1), (22, .int .i64 t16)]) (by kernel_rfl) ?_
     obtain ⟨g36, hp37⟩ := ite_some hp31
     obtain ⟨b38, p39, hA40, hc41⟩ := ha1.atF g36.1 g36.2
     refine q_indexAddr (c := (cd9 [1, 1, 0, 1, 0, 0, 1, 0, 0, 0])) (i := 6) (d := (some 23)) (ty := 0) (t := 33) (e := 39) (n := a1.length) (cp := ca1) (sz := 3) (kk := .i64) (x := (.tmp 21)) (y := (.tmp 22)) (b := b38) (o' := p39) (j := t16) (by kernel_rfl) (by kernel_rfl) (slv (by kernel_rfl) hA40) (by kernel_rfl) (by kernel_rfl) (by kernel_rfl) g36.1 g36.2 ?_
     refine q_load (c := (cd9 [1, 1, 0, 1, 0, 0, 1, 0, 0, 0])) (i := 7) (d := (some 24)) (ty := 39) (t := 39) (x := (.tmp 23)) (p := ⟨b38, p39 + t16.toNat * 3, none⟩) (v := .agg (enc_api_Pick (gt a1 t16)).toArray) (by kernel_rfl) (by kernel_rfl) (by kernel_rfl) (fun w hC => (loads_agg (hc41.cells hC) (by kernel_rfl) (by kernel_rfl))) ?_
     refine q_val (c := (cd9 [1, 1, 0, 1, 0, 0, 1, 0, 0, 0])) (i := 8) (d := (some 25)) (ty := 4) (op := .binOp .neq 39 (.tmp 20) (.tmp 24) 39) (v := .bool (!(decide ((gt a0 t16) = (gt a1 t16))))) (by kernel_rfl) (by kernel_rfl) (fun w hC o ho _ => x_neq_api_Pick (by kernel_rfl) (by kernel_rfl) ho) ?_
     refine q_split (!(decide ((gt a0 t16) = (gt a1 t16)))) (fun h42 => ?_) (fun h43 => ?_)
     ·skip
      have hp44 := ite_t hp37 h42
      refine Qs.nil ?_
      intro w45 hS46
      refine sx_run 5 (todo' := [.code (cd9 [1, 1, 0, 1, 0, 0, 1, 0, 0, 1, 0, 1]), .inBlock 1, .code (cd9 [1, 1, 0, 1, 0, 0, 1, 1]), .inLoop (cd9 [1, 1, 0, 1, 0, 0]), .inBlock 0, .code (cd9 [1, 1, 1])]) (us := [(4, .bool false)]) (by kernel_rfl) ?_
      refine runs_ret (fn := Try.f9) (v := .bool false) Try.func9 (by kernel_rfl) ?_
      have hr47 := (hq26 _ (Option.some.inj hp44))
      cases hr47
      exact hR _ _ ⟨rfl, hS46⟩
     ·skip
      have hp48 := ite_f hp37 h43
      refine Qs.nil ?_
      intro w49 hS50
      refine sx_run 8 (todo' := [.inLoop (cd9 [1, 1, 0, 1, 0, 0]), .inBlock 0, .code (cd9 [1, 1, 1])]) (us := [(15, .int .i64 t16), (16, .int .i64 (IntKind.i64.wrap (t16 + 1))), (5, .int .i64 (IntKind.i64.wrap (t16 + 1)))]) (by kernel_rfl) ?_
      refine sx_run 1 (todo' := [.code (cd9 [1, 1, 0, 1, 0, 0]), .inLoop (cd9 [1, 1, 0, 1, 0, 0]), .inBlock 0, .code (cd9 [1, 1, 1])]) (us := []) (by kernel_rfl) ?_
      refine Runs.fill (m := [some (.slice Aa0 a0.length ca0), some (.slice Aa1 a1.length ca1), none, none, none, some (.int .i64 (IntKind.i64.wrap (t16 + 1))), none, none, none, none, none, none, none, none, none, none, none, none, none, none, none, none, none, none, none, none]) (by kernel_rfl) ?_
      exact ih23 (IntKind.i64.wrap (t16 + 1)) _ hp48 he21 _ _ hS50
    ·skip
     have hp51 := ite_f hb22 h28
     refine sx_run 3 (todo' := [.code (cd9 [1, 1, 1])]) (us := []) (by kernel_rfl) ?_
     refine Runs.fill (m := [none, none, none, none, none, none, none, none, none, none, none, none, none, none, none, none, none, none, none, none, none, none, none, none, none, none]) (by kernel_rfl) ?_
     exact J12 ((Option.some.inj hp51).trans he21) _ _ hS18
   refine Runs.fill (m := [some (.slice Aa0 a0.length ca0), some (.slice Aa1 a1.length ca1), none, none, none, some (.int .i64 0), none, none, none, none, none, none, none, none, none, none, none, none, none, none, none, none, none, none, none, none]) (by kernel_rfl) ?_
   exact L25 0 _ hv7 rfl _ _ hS0

noncomputable def cd3 (p : List Nat) : Code := sub (bodyOf Try.f3) p
def weirlaw15_ScriptFinishes.f (a0 : weirlaw15_Graph) (a1 : ByteArray) (a2 : Int) : Option Bool :=
  (weirlaw15_Graph__small.f (⟨a0.To, a0.Ends, a0.Odd, a0.Holes⟩ : weirlaw15_Graph) >>= (fun t5 => (if (!t5) = true then some (true) else (if (decide (a2 > 3000)) = true then some (true) else (weirlaw15_Graph__Machine.f (⟨a0.To, a0.Ends, a0.Odd, a0.Holes⟩ : weirlaw15_Graph) >>= (fun (t22, t23, t24, t25, t26) => (script_Finish.f t22 t23 (⟨t24.To, t24.Ends, t24.Odd, t24.Holes⟩ : weirlaw15_Graph) t25 t26 a1 a2 >>= (fun (t45, t46) => (weirref15_Finish.f t22 t23 (⟨t24.To, t24.Ends, t24.Odd, t24.Holes⟩ : weirlaw15_Graph) t25 t26 a1 a2 >>= (fun (t57, t58) => (weirlaw11_SamePicks.f t45 t57 >>= (fun t69 => (if t69 = true then (if (seq t46 t58) = true then some (true) else some (false)) else some (false))))))))))))))
set_option maxHeartbeats 16000000 in
theorem weirlaw15_ScriptFinishes.ok (a0 : weirlaw15_Graph) (a1 : ByteArray) (a2 : Int) (Aa0_0 : Option Addr) (ca0_0 : Nat) {w0 : World} {Z : Zm} {fs : List XObj} {w : World} (hS0 : St w0 Z (fs) w) (ha0_0 : SlZ (repL (flat (encI .i64)) 1) 1 Z Aa0_0 ca0_0 a0.To) {q0 : Bool} (hp0 : weirlaw15_ScriptFinishes.f a0 a1 a2 = some q0) :
    Calls Try.prog 3 #[.agg #[.slice Aa0_0 a0.To.length ca0_0, .int .u64 a0.Ends, .bool a0.Odd, .int .i64 a0.Holes], .string a1, .int .i64 a2] w (fun e w' => e = .returned (.bool q0) ∧ St w0 Z (fs) w') := by
  refine calls_abs ?_; intro R hR
  unfold weirlaw15_ScriptFinishes.f at hp0
  refine calls_of_runs (fn := Try.f3) (c := cd3 []) Try.func3 (by kernel_rfl) (al := [.agg #[.slice Aa0_0 a0.To.length ca0_0, .int .u64 a0.Ends, .bool a0.Odd, .int .i64 a0.Holes], .string a1, .int .i64 a2]) rfl (n := 40) rfl ?_
  refine sx_run 2 (todo' := [.inRegion (opsOf (cd3 [0])) [0, 1], .code (cd3 [1])]) (us := []) (by kernel_rfl) ?_
  refine r_box (c := (cd3 [0])) (i := 0) (d := (some 3)) (ty := 0) (x := (.tmp 0)) (v := .agg #[.slice Aa0_0 a0.To.length ca0_0, .int .u64 a0.Ends, .bool a0.Odd, .int .i64 a0.Holes]) (t := 25) (cs := [.slice Aa0_0 a0.To.length ca0_0, .int .u64 a0.Ends, .bool a0.Odd, .int .i64 a0.Holes]) hS0 (by kernel_rfl) (by kernel_rfl) (by kernel_rfl) (by kernel_rfl) ?_
  intro b1 w2 hS3
  refine sx_run 5 (todo' := [.inRegion (opsOf (cd3 [1, 0, 0])) [0, 1, 2, 3, 4, 5, 6], .code (cd3 [1, 0, 1]), .code (cd3 [1, 1])]) (us := [(6, .bool false)]) (by kernel_rfl) ?_
  refine r_load (c := (cd3 [1, 0, 0])) (i := 0) (d := (some 12)) (ty := 25) (t := 25) (x := (.tmp 3)) (p := ⟨b1, 0, none⟩) (v := .agg #[.slice Aa0_0 a0.To.length ca0_0, .int .u64 a0.Ends, .bool a0.Odd, .int .i64 a0.Holes]) (by kernel_rfl) (by kernel_rfl) (by kernel_rfl) (loads_agg (hS3.blk 0 rfl) (by kernel_rfl) (by kernel_rfl)) ?_
  obtain ⟨t5, hr6, hp7⟩ := bind_some' hp0
  refine r_call1 (c := (cd3 [1, 0, 0])) (i := 1) (d := (some 13)) (g := 5) (args := #[.agg #[.slice Aa0_0 a0.To.length ca0_0, .int .u64 a0.Ends, .bool a0.Odd, .int .i64 a0.Holes]]) (by kernel_rfl) (by kernel_rfl) (by kernel_rfl) (by kernel_rfl) (weirlaw15_Graph__small.ok (⟨a0.To, a0.Ends, a0.Odd, a0.Holes⟩ : weirlaw15_Graph) Aa0_0 ca0_0 hS3 ha0_0 hr6) ?_
  rintro _ w8 ⟨rfl, hS9⟩
  refine ⟨.bool t5, rfl, ?_⟩
  refine sx_split 1 (todo' := [.inRegion (opsOf (cd3 [1, 0, 0])) [3, 4, 5, 6], .code (cd3 [1, 0, 1]), .code (cd3 [1, 1])]) (us := []) (d := 14) (t := (!t5)) (by kernel_rfl) (fun h10 => ?_) (fun h11 => ?_)
  ·skip
   have hp12 := ite_t hp7 h10
   refine sx_run 10 (todo' := [.code (cd3 [1, 0, 1, 0, 1]), .code (cd3 [1, 1])]) (us := [(15, .bool true), (16, undef), (17, undef), (18, .bool true), (6, .bool true)]) (by kernel_rfl) ?_
   have hS13 := hS9.drop
   refine runs_ret (fn := Try.f3) (v := .bool true) Try.func3 (by kernel_rfl) ?_
   have hr14 := (Option.some.inj hp12)
   cases hr14
   exact hR _ _ ⟨rfl, hS13⟩
  ·skip
   have hp15 := ite_f hp7 h11
   refine sx_split 3 (todo' := [.inRegion (opsOf (cd3 [1, 0, 0])) [6], .code (cd3 [1, 0, 1]), .code (cd3 [1, 1])]) (us := [(15, .bool false), (16, .int .i64 a2)]) (d := 17) (t := (decide (a2 > 3000))) (by kernel_rfl) (fun h16 => ?_) (fun h17 => ?_)
   ·skip
    have hp18 := ite_t hp15 h16
    refine sx_run 7 (todo' := [.code (cd3 [1, 0, 1, 0, 1]), .code (cd3 [1, 1])]) (us := [(18, .bool true), (6, .bool true)]) (by kernel_rfl) ?_
    have hS19 := hS9.drop
    refine runs_ret (fn := Try.f3) (v := .bool true) Try.func3 (by kernel_rfl) ?_
    have hr20 := (Option.some.inj hp18)
    cases hr20
    exact hR _ _ ⟨rfl, hS19⟩
   ·skip
    have hp21 := ite_f hp15 h17
    refine sx_run 6 (todo' := [.inRegion (opsOf (cd3 [1, 1, 0])) [0, 1, 2, 3], .code (cd3 [1, 1, 1])]) (us := [(18, .bool false)]) (by kernel_rfl) ?_
    refine r_load (c := (cd3 [1, 1, 0])) (i := 0) (d := (some 19)) (ty := 25) (t := 25) (x := (.tmp 3)) (p := ⟨b1, 0, none⟩) (v := .agg #[.slice Aa0_0 a0.To.length ca0_0, .int .u64 a0.Ends, .bool a0.Odd, .int .i64 a0.Holes]) (by kernel_rfl) (by kernel_rfl) (by kernel_rfl) (loads_agg (hS9.blk 0 rfl) (by kernel_rfl) (by kernel_rfl)) ?_
    obtain ⟨⟨t22, t23, t24, t25, t26⟩, hr31, hp32⟩ := bind_some' hp21
    try dsimp only at hp32
    refine r_call1 (c := (cd3 [1, 1, 0])) (i := 1) (d := (some 20)) (g := 6) (args := #[.agg #[.slice Aa0_0 a0.To.length ca0_0, .int .u64 a0.Ends, .bool a0.Odd, .int .i64 a0.Holes]]) (by kernel_rfl) (by kernel_rfl) (by kernel_rfl) (by kernel_rfl) (weirlaw15_Graph__Machine.ok (⟨a0.To, a0.Ends, a0.Odd, a0.Holes⟩ : weirlaw15_Graph) Aa0_0 ca0_0 hS9 ha0_0 hr31) ?_
    rintro _ w36 ⟨Q27, Q28, Q29, Q30, rfl, hS37, hs38⟩
    refine ⟨.agg #[.string t22, cond t23 (.func (.func 21) #[] #[.pointer (some ⟨Q27, 0, none⟩), .pointer (some ⟨Q28, 0, none⟩)]) .nilFunc, cond t25 (.func (.func 22) #[] #[.pointer (some ⟨Q27, 0, none⟩), .pointer (some ⟨Q28, 0, none⟩)]) .nilFunc, cond t26 (.func (.func 23) #[] #[.pointer (some ⟨Q27, 0, none⟩), .pointer (some ⟨Q28, 0, none⟩)]) .nilFunc], rfl, ?_⟩
    refine r_alloc (c := (cd3 [1, 1, 0])) (i := 2) (d := (some 7)) (ty := 0) (z := .agg #[.string (⟨#[]⟩ : ByteArray), .nilFunc, .nilFunc, .nilFunc]) (t := 31) (cs := [.string (⟨#[]⟩ : ByteArray), .nilFunc, .nilFunc, .nilFunc]) hS37 (by kernel_rfl) (by kernel_rfl) (by kernel_rfl) (by kernel_rfl) ?_
    intro b39 w40 hS41
    refine r_store (c := (cd3 [1, 1, 0])) (i := 3) (d := none) (ty := 0) (t := 31) (x := (.tmp 7)) (y := (.tmp 20)) (b := b39) (o := 0) (e := 31) (cs := [.string (⟨#[]⟩ : ByteArray), .nilFunc, .nilFunc, .nilFunc]) (v := .agg #[.string t22, cond t23 (.func (.func 21) #[] #[.pointer (some ⟨Q27, 0, none⟩), .pointer (some ⟨Q28, 0, none⟩)]) .nilFunc, cond t25 (.func (.func 22) #[] #[.pointer (some ⟨Q27, 0, none⟩), .pointer (some ⟨Q28, 0, none⟩)]) .nilFunc, cond t26 (.func (.func 23) #[] #[.pointer (some ⟨Q27, 0, none⟩), .pointer (some ⟨Q28, 0, none⟩)]) .nilFunc]) (vs := [.string t22, cond t23 (.func (.func 21) #[] #[.pointer (some ⟨Q27, 0, none⟩), .pointer (some ⟨Q28, 0, none⟩)]) .nilFunc, cond t25 (.func (.func 22) #[] #[.pointer (some ⟨Q27, 0, none⟩), .pointer (some ⟨Q28, 0, none⟩)]) .nilFunc, cond t26 (.func (.func 23) #[] #[.pointer (some ⟨Q27, 0, none⟩), .pointer (some ⟨Q28, 0, none⟩)]) .nilFunc]) (cs' := [.string t22, cond t23 (.func (.func 21) #[] #[.pointer (some ⟨Q27, 0, none⟩), .pointer (some ⟨Q28, 0, none⟩)]) .nilFunc, cond t25 (.func (.func 22) #[] #[.pointer (some ⟨Q27, 0, none⟩), .pointer (some ⟨Q28, 0, none⟩)]) .nilFunc, cond t26 (.func (.func 23) #[] #[.pointer (some ⟨Q27, 0, none⟩), .pointer (some ⟨Q28, 0, none⟩)]) .nilFunc]) hS41 (by kernel_rfl) (by kernel_rfl) (by kernel_rfl) (by kernel_rfl) (by kernel_rfl) (by kernel_rfl) (by cases t23 <;> cases t25 <;> cases t26 <;> rfl) (Nat.le_of_ble_eq_true (by kernel_rfl)) (by kernel_rfl) ?_
    intro w43 hS44
    refine sx_run 3 (todo' := [.inRegion (opsOf (cd3 [1, 1, 1, 0])) [0, 1, 2, 3, 4, 5, 6, 7, 8], .code (cd3 [1, 1, 1, 1])]) (us := []) (by kernel_rfl) ?_
    refine r_load (c := (cd3 [1, 1, 1, 0])) (i := 0) (d := (some 22)) (ty := 31) (t := 31) (x := (.tmp 7)) (p := ⟨b39, 0, none⟩) (v := .agg #[.string t22, cond t23 (.func (.func 21) #[] #[.pointer (some ⟨Q27, 0, none⟩), .pointer (some ⟨Q28, 0, none⟩)]) .nilFunc, cond t25 (.func (.func 22) #[] #[.pointer (some ⟨Q27, 0, none⟩), .pointer (some ⟨Q28, 0, none⟩)]) .nilFunc, cond t26 (.func (.func 23) #[] #[.pointer (some ⟨Q27, 0, none⟩), .pointer (some ⟨Q28, 0, none⟩)]) .nilFunc]) (by kernel_rfl) (by kernel_rfl) (by kernel_rfl) (loads_agg (hS44.blk 0 rfl) (by kernel_rfl) (by kernel_rfl)) ?_
    refine sx_run 2 (todo' := [.inRegion (opsOf (cd3 [1, 1, 1, 0])) [3, 4, 5, 6, 7, 8], .code (cd3 [1, 1, 1, 1])]) (us := [(23, .string a1), (24, .int .i64 a2)]) (by kernel_rfl) ?_
    obtain ⟨⟨t45, t46⟩, hr49, hp50⟩ := bind_some' hp32
    try dsimp only at hp50
    have hS53 := hS44.pick2
    have hS54 := hS53.pick2
    refine r_call1 (c := (cd3 [1, 1, 1, 0])) (i := 3) (d := (some 25)) (g := 7) (args := #[.agg #[.string t22, cond t23 (.func (.func 21) #[] #[.pointer (some ⟨Q27, 0, none⟩), .pointer (some ⟨Q28, 0, none⟩)]) .nilFunc, cond t25 (.func (.func 22) #[] #[.pointer (some ⟨Q27, 0, none⟩), .pointer (some ⟨Q28, 0, none⟩)]) .nilFunc, cond t26 (.func (.func 23) #[] #[.pointer (some ⟨Q27, 0, none⟩), .pointer (some ⟨Q28, 0, none⟩)]) .nilFunc], .string a1, .int .i64 a2]) (by kernel_rfl) (by kernel_rfl) (by kernel_rfl) (by kernel_rfl) (script_Finish.ok t22 t23 (⟨t24.To, t24.Ends, t24.Odd, t24.Holes⟩ : weirlaw15_Graph) t25 t26 a1 a2 Q27 Q28 Q29 Q30 hS54 hs38 hr49) ?_
    rintro _ w55 ⟨Q47, Q48, rfl, hS56⟩
    refine ⟨.tuple #[.slice Q47 t45.length Q48, .string t46], rfl, ?_⟩
    refine sx_run 8 (todo' := [.inRegion (opsOf (cd3 [1, 1, 1, 1, 0])) [0, 1, 2, 3, 4, 5, 6, 7, 8], .code (cd3 [1, 1, 1, 1, 1])]) (us := [(21, .tuple #[.slice Q47 t45.length Q48, .string t46]), (26, .slice Q47 t45.length Q48), (27, .string t46), (8, .slice Q47 t45.length Q48), (9, .string t46)]) (by kernel_rfl) ?_
    refine r_load (c := (cd3 [1, 1, 1, 1, 0])) (i := 0) (d := (some 29)) (ty := 31) (t := 31) (x := (.tmp 7)) (p := ⟨b39, 0, none⟩) (v := .agg #[.string t22, cond t23 (.func (.func 21) #[] #[.pointer (some ⟨Q27, 0, none⟩), .pointer (some ⟨Q28, 0, none⟩)]) .nilFunc, cond t25 (.func (.func 22) #[] #[.pointer (some ⟨Q27, 0, none⟩), .pointer (some ⟨Q28, 0, none⟩)]) .nilFunc, cond t26 (.func (.func 23) #[] #[.pointer (some ⟨Q27, 0, none⟩), .pointer (some ⟨Q28, 0, none⟩)]) .nilFunc]) (by kernel_rfl) (by kernel_rfl) (by kernel_rfl) (loads_agg (hS56.blk 3 rfl) (by kernel_rfl) (by kernel_rfl)) ?_
    refine sx_run 2 (todo' := [.inRegion (opsOf (cd3 [1, 1, 1, 1, 0])) [3, 4, 5, 6, 7, 8], .code (cd3 [1, 1, 1, 1, 1])]) (us := [(30, .string a1), (31, .int .i64 a2)]) (by kernel_rfl) ?_
    obtain ⟨⟨t57, t58⟩, hr61, hp62⟩ := bind_some' hp50
    try dsimp only at hp62
    have hS65 := hS56.pick2
    have hS66 := hS65.pick2
    refine r_call1 (c := (cd3 [1, 1, 1, 1, 0])) (i := 3) (d := (some 32)) (g := 8) (args := #[.agg #[.string t22, cond t23 (.func (.func 21) #[] #[.pointer (some ⟨Q27, 0, none⟩), .pointer (some ⟨Q28, 0, none⟩)]) .nilFunc, cond t25 (.func (.func 22) #[] #[.pointer (some ⟨Q27, 0, none⟩), .pointer (some ⟨Q28, 0, none⟩)]) .nilFunc, cond t26 (.func (.func 23) #[] #[.pointer (some ⟨Q27, 0, none⟩), .pointer (some ⟨Q28, 0, none⟩)]) .nilFunc], .string a1, .int .i64 a2]) (by kernel_rfl) (by kernel_rfl) (by kernel_rfl) (by kernel_rfl) (weirref15_Finish.ok t22 t23 (⟨t24.To, t24.Ends, t24.Odd, t24.Holes⟩ : weirlaw15_Graph) t25 t26 a1 a2 Q27 Q28 Q29 Q30 hS66 hs38 hr61) ?_
    rintro _ w67 ⟨Q59, Q60, rfl, hS68⟩
    refine ⟨.tuple #[.slice Q59 t57.length Q60, .string t58], rfl, ?_⟩
    refine sx_run 10 (todo' := [.inRegion (opsOf (cd3 [1, 1, 1, 1, 1, 0])) [2, 3, 4, 5, 6, 7, 8], .code (cd3 [1, 1, 1, 1, 1, 1])]) (us := [(28, .tuple #[.slice Q59 t57.length Q60, .string t58]), (33, .slice Q59 t57.length Q60), (34, .string t58), (10, .slice Q59 t57.length Q60), (11, .string t58), (35, .slice Q47 t45.length Q48), (36, .slice Q59 t57.length Q60)]) (by kernel_rfl) ?_
    obtain ⟨t69, hr70, hp71⟩ := bind_some' hp62
    have hS72 := hS68.pick3
    obtain ⟨Z73, hz74, hS75, hs76, hb77⟩ := hS72.lendrow len_api_Pick (by omega)
    obtain ⟨Z78, hz79, hS80, hs81, hb82⟩ := hS75.lendrow len_api_Pick (by omega)
    refine r_call1 (c := (cd3 [1, 1, 1, 1, 1, 0])) (i := 2) (d := (some 37)) (g := 9) (args := #[.slice Q47 t45.length Q48, .slice Q59 t57.length Q60]) (by kernel_rfl) (by kernel_rfl) (by kernel_rfl) (by kernel_rfl) (weirlaw11_SamePicks.ok t45 t57 Q47 Q48 Q59 Q60 hS80 (hs76.up hz79) hs81 hr70) ?_
    rintro _ w83 ⟨rfl, hS84⟩
    refine ⟨.bool t69, rfl, ?_⟩
    have hS85 := hb82 _ _ hS84
    have hS86 := hb77 _ _ hS85
    refine sx_run 1 (todo' := [.inRegion (opsOf (cd3 [1, 1, 1, 1, 1, 0])) [4, 5, 6, 7, 8], .code (cd3 [1, 1, 1, 1, 1, 1])]) (us := [(38, .bool t69)]) (by kernel_rfl) ?_
    cases t69
    ·skip
     have hp87 := ite_f hp71 rfl
     refine sx_run 6 (todo' := [.code (cd3 [1, 1, 1, 1, 1, 1])]) (us := [(39, undef), (40, undef), (41, undef), (42, .bool false), (6, .bool false)]) (by kernel_rfl) ?_
     have hS88 := hS86.drop
     have hS89 := hS88.drop
     have hS90 := hS89.drop
     have hS91 := hS90.drop
     have hS92 := hS91.drop
     have hS93 := hS92.drop
     refine runs_ret (fn := Try.f3) (v := .bool false) Try.func3 (by kernel_rfl) ?_
     have hr94 := (Option.some.inj hp87)
     cases hr94
     exact hR _ _ ⟨rfl, hS93⟩
    ·skip
     have hp95 := ite_t hp71 rfl
     refine sx_split 3 (todo' := [.inRegion (opsOf (cd3 [1, 1, 1, 1, 1, 0])) [7, 8], .code (cd3 [1, 1, 1, 1, 1, 1])]) (us := [(39, .string t46), (40, .string t58)]) (d := 41) (t := (seq t46 t58)) (by kernel_rfl) (fun h96 => ?_) (fun h97 => ?_)
     ·skip
      have hp98 := ite_t hp95 h96
      refine sx_run 3 (todo' := [.code (cd3 [1, 1, 1, 1, 1, 1])]) (us := [(42, .bool true), (6, .bool true)]) (by kernel_rfl) ?_
      have hS99 := hS86.drop
      have hS100 := hS99.drop
      have hS101 := hS100.drop
      have hS102 := hS101.drop
      have hS103 := hS102.drop
      have hS104 := hS103.drop
      refine runs_ret (fn := Try.f3) (v := .bool true) Try.func3 (by kernel_rfl) ?_
      have hr105 := (Option.some.inj hp98)
      cases hr105
      exact hR _ _ ⟨rfl, hS104⟩
     ·skip
      have hp106 := ite_f hp95 h97
      refine sx_run 3 (todo' := [.code (cd3 [1, 1, 1, 1, 1, 1])]) (us := [(42, .bool false), (6, .bool false)]) (by kernel_rfl) ?_
      have hS107 := hS86.drop
      have hS108 := hS107.drop
      have hS109 := hS108.drop
      have hS110 := hS109.drop
      have hS111 := hS110.drop
      have hS112 := hS111.drop
      refine runs_ret (fn := Try.f3) (v := .bool false) Try.func3 (by kernel_rfl) ?_
      have hr113 := (Option.some.inj hp106)
      cases hr113
      exact hR _ _ ⟨rfl, hS112⟩

end
end Go.Proofs.Ytpmemdhgcelkoaa.K
