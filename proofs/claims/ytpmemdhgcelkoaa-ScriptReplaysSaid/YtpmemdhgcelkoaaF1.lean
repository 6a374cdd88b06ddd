/- The walk, part 1: each Go function as a plain Lean function, and that its call answers as that function says. No condition. -/
import Derived.Test.YtpmemdhgcelkoaaE
import Derived.Test.YtpmemdhgcelkoaaNM
set_option linter.unusedVariables false
set_option linter.unusedSimpArgs false
set_option maxRecDepth 100000
namespace Go.Proofs.Ytpmemdhgcelkoaa.K
open Go Go.RowKit
noncomputable section
noncomputable def cd5 (p : List Nat) : Code := sub (bodyOf Try.f5) p
def weirlaw15_Graph__small.f (a0 : weirlaw15_Graph) : Option Bool :=
  (if (decide ((a0.To.length : Int) ≤ 200)) = true then some (true) else some (false))
set_option maxHeartbeats 16000000 in
theorem weirlaw15_Graph__small.ok (a0 : weirlaw15_Graph) (Aa0_0 : Option Addr) (ca0_0 : Nat) {w0 : World} {Z : Zm} {fs : List XObj} {w : World} (hS0 : St w0 Z (fs) w) (ha0_0 : SlZ (repL (flat (encI .i64)) 1) 1 Z Aa0_0 ca0_0 a0.To) {q0 : Bool} (hp0 : weirlaw15_Graph__small.f a0 = some q0) :
    Calls Try.prog 5 #[.agg #[.slice Aa0_0 a0.To.length ca0_0, .int .u64 a0.Ends, .bool a0.Odd, .int .i64 a0.Holes]] w (fun e w' => e = .returned (.bool q0) ∧ St w0 Z (fs) w') := by
  refine calls_abs ?_; intro R hR
  unfold weirlaw15_Graph__small.f at hp0
  refine calls_of_runs (fn := Try.f5) (c := cd5 []) Try.func5 (by kernel_rfl) (al := [.agg #[.slice Aa0_0 a0.To.length ca0_0, .int .u64 a0.Ends, .bool a0.Odd, .int .i64 a0.Holes]]) rfl (n := 6) rfl ?_
  refine sx_run 2 (todo' := [.inRegion (opsOf (cd5 [0])) [0, 1], .code (cd5 [1])]) (us := []) (by kernel_rfl) ?_
  refine r_box (c := (cd5 [0])) (i := 0) (d := (some 1)) (ty := 0) (x := (.tmp 0)) (v := .agg #[.slice Aa0_0 a0.To.length ca0_0, .int .u64 a0.Ends, .bool a0.Odd, .int .i64 a0.Holes]) (t := 25) (cs := [.slice Aa0_0 a0.To.length ca0_0, .int .u64 a0.Ends, .bool a0.Odd, .int .i64 a0.Holes]) hS0 (by kernel_rfl) (by kernel_rfl) (by kernel_rfl) (by kernel_rfl) ?_
  intro b1 w2 hS3
  refine sx_run 5 (todo' := [.inRegion (opsOf (cd5 [1, 0])) [1, 2, 3, 4], .code (cd5 [1, 1])]) (us := [(2, .bool false), (3, .pointer (some ⟨b1, 0, none⟩))]) (by kernel_rfl) ?_
  refine r_load (c := (cd5 [1, 0])) (i := 1) (d := (some 4)) (ty := 22) (t := 22) (x := (.tmp 3)) (p := ⟨b1, 0, none⟩) (v := .slice Aa0_0 a0.To.length ca0_0) (by kernel_rfl) (by kernel_rfl) (by kernel_rfl) (loads_at 0 (hS3.blk 0 rfl) (by kernel_rfl) (by kernel_rfl)) ?_
  refine sx_split 2 (todo' := [.inRegion (opsOf (cd5 [1, 0])) [4], .code (cd5 [1, 1])]) (us := [(5, .int .i64 (a0.To.length : Int))]) (d := 6) (t := (decide ((a0.To.length : Int) ≤ 200))) (by kernel_rfl) (fun h5 => ?_) (fun h6 => ?_)
  ·skip
   have hp7 := ite_t hp0 h5
   refine sx_run 2 (todo' := [.code (cd5 [1, 1])]) (us := [(2, .bool true)]) (by kernel_rfl) ?_
   have hS8 := hS3.drop
   refine runs_ret (fn := Try.f5) (v := .bool true) Try.func5 (by kernel_rfl) ?_
   have hr9 := (Option.some.inj hp7)
   cases hr9
   exact hR _ _ ⟨rfl, hS8⟩
  ·skip
   have hp10 := ite_f hp0 h6
   refine sx_run 2 (todo' := [.code (cd5 [1, 1])]) (us := [(2, .bool false)]) (by kernel_rfl) ?_
   have hS11 := hS3.drop
   refine runs_ret (fn := Try.f5) (v := .bool false) Try.func5 (by kernel_rfl) ?_
   have hr12 := (Option.some.inj hp10)
   cases hr12
   exact hR _ _ ⟨rfl, hS11⟩

noncomputable def cd6 (p : List Nat) : Code := sub (bodyOf Try.f6) p
def weirlaw15_Graph__Machine.f (a0 : weirlaw15_Graph) : Option (ByteArray × Bool × weirlaw15_Graph × Bool × Bool) :=
  (((if ((band .i64 a0.Holes 1) == 0) = true then some (((⟨#[0]⟩ : ByteArray), true)) else some (((⟨#[0]⟩ : ByteArray), false))) : Option (ByteArray × Bool)) >>= (fun (t24, t25) => (((if ((band .i64 a0.Holes 2) == 0) = true then some ((t24, t25, true)) else some ((t24, t25, false))) : Option (ByteArray × Bool × Bool)) >>= (fun (t34, t35, t36) => (((if ((band .i64 a0.Holes 4) == 0) = true then some ((t34, t35, t36, true)) else some ((t34, t35, t36, false))) : Option (ByteArray × Bool × Bool × Bool)) >>= (fun (t45, t46, t47, t48) => some ((t45, t46, (⟨a0.To, a0.Ends, a0.Odd, a0.Holes⟩ : weirlaw15_Graph), t47, t48))))))))
set_option maxHeartbeats 16000000 in
theorem weirlaw15_Graph__Machine.ok (a0 : weirlaw15_Graph) (Aa0_0 : Option Addr) (ca0_0 : Nat) {w0 : World} {Z : Zm} {fs : List XObj} {w : World} (hS0 : St w0 Z (fs) w) (ha0_0 : SlZ (repL (flat (encI .i64)) 1) 1 Z Aa0_0 ca0_0 a0.To) {q0 : ByteArray} {q1 : Bool} {q2 : weirlaw15_Graph} {q3 : Bool} {q4 : Bool} (hp0 : weirlaw15_Graph__Machine.f a0 = some (q0, q1, q2, q3, q4)) :
    Calls Try.prog 6 #[.agg #[.slice Aa0_0 a0.To.length ca0_0, .int .u64 a0.Ends, .bool a0.Odd, .int .i64 a0.Holes]] w (fun e w' => ∃ (Qb0 : Nat) (Qb1 : Nat) (QA2 : Option Addr) (Qc2 : Nat), e = .returned (.agg #[.string q0, cond q1 (.func (.func 21) #[] #[.pointer (some ⟨Qb0, 0, none⟩), .pointer (some ⟨Qb1, 0, none⟩)]) .nilFunc, cond q3 (.func (.func 22) #[] #[.pointer (some ⟨Qb0, 0, none⟩), .pointer (some ⟨Qb1, 0, none⟩)]) .nilFunc, cond q4 (.func (.func 23) #[] #[.pointer (some ⟨Qb0, 0, none⟩), .pointer (some ⟨Qb1, 0, none⟩)]) .nilFunc]) ∧ St w0 Z (xblk Qb0 53 ([.func (.func 20) #[] #[.pointer (some ⟨Qb1, 0, none⟩)]]) :: xblk Qb1 25 ([.slice QA2 q2.To.length Qc2, .int .u64 q2.Ends, .bool q2.Odd, .int .i64 q2.Holes]) :: fs) w' ∧ SlZ (repL (flat (encI .i64)) 1) 1 Z QA2 Qc2 q2.To) := by
  refine calls_abs ?_; intro R hR
  unfold weirlaw15_Graph__Machine.f at hp0
  refine calls_of_runs (fn := Try.f6) (c := cd6 []) Try.func6 (by kernel_rfl) (al := [.agg #[.slice Aa0_0 a0.To.length ca0_0, .int .u64 a0.Ends, .bool a0.Odd, .int .i64 a0.Holes]]) rfl (n := 25) rfl ?_
  refine sx_run 2 (todo' := [.inRegion (opsOf (cd6 [0])) [0, 1], .code (cd6 [1])]) (us := []) (by kernel_rfl) ?_
  refine r_box (c := (cd6 [0])) (i := 0) (d := (some 1)) (ty := 0) (x := (.tmp 0)) (v := .agg #[.slice Aa0_0 a0.To.length ca0_0, .int .u64 a0.Ends, .bool a0.Odd, .int .i64 a0.Holes]) (t := 25) (cs := [.slice Aa0_0 a0.To.length ca0_0, .int .u64 a0.Ends, .bool a0.Odd, .int .i64 a0.Holes]) hS0 (by kernel_rfl) (by kernel_rfl) (by kernel_rfl) (by kernel_rfl) ?_
  intro b1 w2 hS3
  refine r_alloc (c := (cd6 [0])) (i := 1) (d := (some 2)) (ty := 0) (z := .agg #[.string (⟨#[]⟩ : ByteArray), .nilFunc, .nilFunc, .nilFunc]) (t := 31) (cs := [.string (⟨#[]⟩ : ByteArray), .nilFunc, .nilFunc, .nilFunc]) hS3 (by kernel_rfl) (by kernel_rfl) (by kernel_rfl) (by kernel_rfl) ?_
  intro b5 w6 hS7
  refine sx_run 4 (todo' := [.inRegion (opsOf (cd6 [1, 0])) [1, 2], .code (cd6 [1, 1])]) (us := [(5, .func (.func 20) #[] #[.pointer (some ⟨b1, 0, none⟩)])]) (by kernel_rfl) ?_
  refine r_alloc (c := (cd6 [1, 0])) (i := 1) (d := (some 3)) (ty := 0) (z := .nilFunc) (t := 53) (cs := [.nilFunc]) hS7 (by kernel_rfl) (by kernel_rfl) (by kernel_rfl) (by kernel_rfl) ?_
  intro b9 w10 hS11
  refine r_store (c := (cd6 [1, 0])) (i := 2) (d := none) (ty := 0) (t := 53) (x := (.tmp 3)) (y := (.tmp 5)) (b := b9) (o := 0) (e := 53) (cs := [.nilFunc]) (v := .func (.func 20) #[] #[.pointer (some ⟨b1, 0, none⟩)]) (vs := [.func (.func 20) #[] #[.pointer (some ⟨b1, 0, none⟩)]]) (cs' := [.func (.func 20) #[] #[.pointer (some ⟨b1, 0, none⟩)]]) hS11 (by kernel_rfl) (by kernel_rfl) (by kernel_rfl) (by kernel_rfl) (by kernel_rfl) (by kernel_rfl) (by kernel_rfl) (Nat.le_of_ble_eq_true (by kernel_rfl)) (by kernel_rfl) ?_
  intro w13 hS14
  refine sx_run 4 (todo' := [.inRegion (opsOf (cd6 [1, 1, 0])) [1, 2], .code (cd6 [1, 1, 1])]) (us := [(6, .agg #[.string (⟨#[0]⟩ : ByteArray), .nilFunc, .nilFunc, .nilFunc])]) (by kernel_rfl) ?_
  refine r_alloc (c := (cd6 [1, 1, 0])) (i := 1) (d := (some 4)) (ty := 0) (z := .agg #[.string (⟨#[]⟩ : ByteArray), .nilFunc, .nilFunc, .nilFunc]) (t := 31) (cs := [.string (⟨#[]⟩ : ByteArray), .nilFunc, .nilFunc, .nilFunc]) hS14 (by kernel_rfl) (by kernel_rfl) (by kernel_rfl) (by kernel_rfl) ?_
  intro b15 w16 hS17
  refine r_store (c := (cd6 [1, 1, 0])) (i := 2) (d := none) (ty := 0) (t := 31) (x := (.tmp 4)) (y := (.tmp 6)) (b := b15) (o := 0) (e := 31) (cs := [.string (⟨#[]⟩ : ByteArray), .nilFunc, .nilFunc, .nilFunc]) (v := .agg #[.string (⟨#[0]⟩ : ByteArray), .nilFunc, .nilFunc, .nilFunc]) (vs := [.string (⟨#[0]⟩ : ByteArray), .nilFunc, .nilFunc, .nilFunc]) (cs' := [.string (⟨#[0]⟩ : ByteArray), .nilFunc, .nilFunc, .nilFunc]) hS17 (by kernel_rfl) (by kernel_rfl) (by kernel_rfl) (by kernel_rfl) (by kernel_rfl) (by kernel_rfl) (by kernel_rfl) (Nat.le_of_ble_eq_true (by kernel_rfl)) (by kernel_rfl) ?_
  intro w19 hS20
  refine sx_run 5 (todo' := [.inRegion (opsOf (cd6 [1, 1, 1, 0, 0])) [1, 2, 3], .code (cd6 [1, 1, 1, 0, 1]), .code (cd6 [1, 1, 1, 1])]) (us := [(7, .pointer (some ⟨b1, 3, none⟩))]) (by kernel_rfl) ?_
  refine r_load (c := (cd6 [1, 1, 1, 0, 0])) (i := 1) (d := (some 8)) (ty := 3) (t := 3) (x := (.tmp 7)) (p := ⟨b1, 3, none⟩) (v := .int .i64 a0.Holes) (by kernel_rfl) (by kernel_rfl) (by kernel_rfl) (loads_at 3 (hS20.blk 3 rfl) (by kernel_rfl) (by kernel_rfl)) ?_
  obtain ⟨v21, hv22, hp23⟩ := bind_some' hp0
  have J28 : ∀ (t24 : ByteArray) (t25 : Bool) (he30 : (t24, t25) = v21) (l29 : List Value) (w26 : World) (hS27 : St w0 Z (xblk b1 25 ([.slice Aa0_0 a0.To.length ca0_0, .int .u64 a0.Ends, .bool a0.Odd, .int .i64 a0.Holes]) :: xblk b5 31 ([.string (⟨#[]⟩ : ByteArray), .nilFunc, .nilFunc, .nilFunc]) :: xblk b9 53 ([.func (.func 20) #[] #[.pointer (some ⟨b1, 0, none⟩)]]) :: xblk b15 31 ([.string t24, cond t25 (.func (.func 21) #[] #[.pointer (some ⟨b9, 0, none⟩), .pointer (some ⟨b1, 0, none⟩)]) .nilFunc, .nilFunc, .nilFunc]) :: fs) w26), Runs Try.prog 6 [.code (cd6 [1, 1, 1, 1])] (fill [none, some (.pointer (some ⟨b1, 0, none⟩)), some (.pointer (some ⟨b5, 0, none⟩)), some (.pointer (some ⟨b9, 0, none⟩)), some (.pointer (some ⟨b15, 0, none⟩)), none, none, none, none, none, none, none, none, none, none, none, none, none, none, none, none, none, none, none, none, none] l29) w26 R := by
   intro t24 t25 he30 l29 w26 hS27
   subst he30
   try dsimp only at hp23
   refine sx_run 4 (todo' := [.inRegion (opsOf (cd6 [1, 1, 1, 1, 0, 0])) [1, 2, 3], .code (cd6 [1, 1, 1, 1, 0, 1]), .code (cd6 [1, 1, 1, 1, 1])]) (us := [(13, .pointer (some ⟨b1, 3, none⟩))]) (by kernel_rfl) ?_
   refine r_load (c := (cd6 [1, 1, 1, 1, 0, 0])) (i := 1) (d := (some 14)) (ty := 3) (t := 3) (x := (.tmp 13)) (p := ⟨b1, 3, none⟩) (v := .int .i64 a0.Holes) (by kernel_rfl) (by kernel_rfl) (by kernel_rfl) (loads_at 3 (hS27.blk 0 rfl) (by kernel_rfl) (by kernel_rfl)) ?_
   obtain ⟨v31, hv32, hp33⟩ := bind_some' hp23
   have J39 : ∀ (t34 : ByteArray) (t35 : Bool) (t36 : Bool) (he41 : (t34, t35, t36) = v31) (l40 : List Value) (w37 : World) (hS38 : St w0 Z (xblk b1 25 ([.slice Aa0_0 a0.To.length ca0_0, .int .u64 a0.Ends, .bool a0.Odd, .int .i64 a0.Holes]) :: xblk b5 31 ([.string (⟨#[]⟩ : ByteArray), .nilFunc, .nilFunc, .nilFunc]) :: xblk b9 53 ([.func (.func 20) #[] #[.pointer (some ⟨b1, 0, none⟩)]]) :: xblk b15 31 ([.string t34, cond t35 (.func (.func 21) #[] #[.pointer (some ⟨b9, 0, none⟩), .pointer (some ⟨b1, 0, none⟩)]) .nilFunc, cond t36 (.func (.func 22) #[] #[.pointer (some ⟨b9, 0, none⟩), .pointer (some ⟨b1, 0, none⟩)]) .nilFunc, .nilFunc]) :: fs) w37), Runs Try.prog 6 [.code (cd6 [1, 1, 1, 1, 1])] (fill [none, some (.pointer (some ⟨b1, 0, none⟩)), some (.pointer (some ⟨b5, 0, none⟩)), some (.pointer (some ⟨b9, 0, none⟩)), some (.pointer (some ⟨b15, 0, none⟩)), none, none, none, none, none, none, none, none, none, none, none, none, none, none, none, none, none, none, none, none, none] l40) w37 R := by
    intro t34 t35 t36 he41 l40 w37 hS38
    subst he41
    try dsimp only at hp33
    refine sx_run 4 (todo' := [.inRegion (opsOf (cd6 [1, 1, 1, 1, 1, 0, 0])) [1, 2, 3], .code (cd6 [1, 1, 1, 1, 1, 0, 1]), .code (cd6 [1, 1, 1, 1, 1, 1])]) (us := [(19, .pointer (some ⟨b1, 3, none⟩))]) (by kernel_rfl) ?_
    refine r_load (c := (cd6 [1, 1, 1, 1, 1, 0, 0])) (i := 1) (d := (some 20)) (ty := 3) (t := 3) (x := (.tmp 19)) (p := ⟨b1, 3, none⟩) (v := .int .i64 a0.Holes) (by kernel_rfl) (by kernel_rfl) (by kernel_rfl) (loads_at 3 (hS38.blk 0 rfl) (by kernel_rfl) (by kernel_rfl)) ?_
    obtain ⟨v42, hv43, hp44⟩ := bind_some' hp33
    have J51 : ∀ (t45 : ByteArray) (t46 : Bool) (t47 : Bool) (t48 : Bool) (he53 : (t45, t46, t47, t48) = v42) (l52 : List Value) (w49 : World) (hS50 : St w0 Z (xblk b5 31 ([.string (⟨#[]⟩ : ByteArray), .nilFunc, .nilFunc, .nilFunc]) :: xblk b15 31 ([.string t45, cond t46 (.func (.func 21) #[] #[.pointer (some ⟨b9, 0, none⟩), .pointer (some ⟨b1, 0, none⟩)]) .nilFunc, cond t47 (.func (.func 22) #[] #[.pointer (some ⟨b9, 0, none⟩), .pointer (some ⟨b1, 0, none⟩)]) .nilFunc, cond t48 (.func (.func 23) #[] #[.pointer (some ⟨b9, 0, none⟩), .pointer (some ⟨b1, 0, none⟩)]) .nilFunc]) :: xblk b9 53 ([.func (.func 20) #[] #[.pointer (some ⟨b1, 0, none⟩)]]) :: xblk b1 25 ([.slice Aa0_0 a0.To.length ca0_0, .int .u64 a0.Ends, .bool a0.Odd, .int .i64 a0.Holes]) :: fs) w49), Runs Try.prog 6 [.code (cd6 [1, 1, 1, 1, 1, 1])] (fill [none, none, some (.pointer (some ⟨b5, 0, none⟩)), none, some (.pointer (some ⟨b15, 0, none⟩)), none, none, none, none, none, none, none, none, none, none, none, none, none, none, none, none, none, none, none, none, none] l52) w49 R := by
     intro t45 t46 t47 t48 he53 l52 w49 hS50
     subst he53
     try dsimp only at hp44
     refine sx_run 2 (todo' := [.inRegion (opsOf (cd6 [1, 1, 1, 1, 1, 1, 0])) [0, 1], .code (cd6 [1, 1, 1, 1, 1, 1, 1])]) (us := []) (by kernel_rfl) ?_
     refine r_load (c := (cd6 [1, 1, 1, 1, 1, 1, 0])) (i := 0) (d := (some 25)) (ty := 31) (t := 31) (x := (.tmp 4)) (p := ⟨b15, 0, none⟩) (v := .agg #[.string t45, cond t46 (.func (.func 21) #[] #[.pointer (some ⟨b9, 0, none⟩), .pointer (some ⟨b1, 0, none⟩)]) .nilFunc, cond t47 (.func (.func 22) #[] #[.pointer (some ⟨b9, 0, none⟩), .pointer (some ⟨b1, 0, none⟩)]) .nilFunc, cond t48 (.func (.func 23) #[] #[.pointer (some ⟨b9, 0, none⟩), .pointer (some ⟨b1, 0, none⟩)]) .nilFunc]) (by kernel_rfl) (by kernel_rfl) (by kernel_rfl) (loads_agg (hS50.blk 1 rfl) (by kernel_rfl) (by kernel_rfl)) ?_
     refine r_store (c := (cd6 [1, 1, 1, 1, 1, 1, 0])) (i := 1) (d := none) (ty := 0) (t := 31) (x := (.tmp 2)) (y := (.tmp 25)) (b := b5) (o := 0) (e := 31) (cs := [.string (⟨#[]⟩ : ByteArray), .nilFunc, .nilFunc, .nilFunc]) (v := .agg #[.string t45, cond t46 (.func (.func 21) #[] #[.pointer (some ⟨b9, 0, none⟩), .pointer (some ⟨b1, 0, none⟩)]) .nilFunc, cond t47 (.func (.func 22) #[] #[.pointer (some ⟨b9, 0, none⟩), .pointer (some ⟨b1, 0, none⟩)]) .nilFunc, cond t48 (.func (.func 23) #[] #[.pointer (some ⟨b9, 0, none⟩), .pointer (some ⟨b1, 0, none⟩)]) .nilFunc]) (vs := [.string t45, cond t46 (.func (.func 21) #[] #[.pointer (some ⟨b9, 0, none⟩), .pointer (some ⟨b1, 0, none⟩)]) .nilFunc, cond t47 (.func (.func 22) #[] #[.pointer (some ⟨b9, 0, none⟩), .pointer (some ⟨b1, 0, none⟩)]) .nilFunc, cond t48 (.func (.func 23) #[] #[.pointer (some ⟨b9, 0, none⟩), .pointer (some ⟨b1, 0, none⟩)]) .nilFunc]) (cs' := [.string t45, cond t46 (.func (.func 21) #[] #[.pointer (some ⟨b9, 0, none⟩), .pointer (some ⟨b1, 0, none⟩)]) .nilFunc, cond t47 (.func (.func 22) #[] #[.pointer (some ⟨b9, 0, none⟩), .pointer (some ⟨b1, 0, none⟩)]) .nilFunc, cond t48 (.func (.func 23) #[] #[.pointer (some ⟨b9, 0, none⟩), .pointer (some ⟨b1, 0, none⟩)]) .nilFunc]) hS50 (by kernel_rfl) (by kernel_rfl) (by kernel_rfl) (by kernel_rfl) (by kernel_rfl) (by kernel_rfl) (by cases t46 <;> cases t47 <;> cases t48 <;> rfl) (Nat.le_of_ble_eq_true (by kernel_rfl)) (by kernel_rfl) ?_
     intro w54 hS55
     refine sx_run 1 (todo' := [.code (cd6 [1, 1, 1, 1, 1, 1, 1])]) (us := []) (by kernel_rfl) ?_
     have hS56 := hS55.drop
     have hS57 := hS56.drop
     refine runs_ret (fn := Try.f6) (v := .agg #[.string t45, cond t46 (.func (.func 21) #[] #[.pointer (some ⟨b9, 0, none⟩), .pointer (some ⟨b1, 0, none⟩)]) .nilFunc, cond t47 (.func (.func 22) #[] #[.pointer (some ⟨b9, 0, none⟩), .pointer (some ⟨b1, 0, none⟩)]) .nilFunc, cond t48 (.func (.func 23) #[] #[.pointer (some ⟨b9, 0, none⟩), .pointer (some ⟨b1, 0, none⟩)]) .nilFunc]) Try.func6 (resl_run (fn := Try.f6) (by kernel_rfl) (.cell (t := 2) (ty := 31) (by kernel_rfl) (loads_agg (hS55.blk 0 rfl) (by kernel_rfl) (by kernel_rfl)) .nil)) ?_
     have hr58 := (Option.some.inj hp44)
     cases hr58
     exact hR _ _ ⟨b9, b1, Aa0_0, ca0_0, rfl, hS57, ha0_0⟩
    refine sx_split 2 (todo' := [.inRegion (opsOf (cd6 [1, 1, 1, 1, 1, 0, 0])) [], .code (cd6 [1, 1, 1, 1, 1, 0, 1]), .code (cd6 [1, 1, 1, 1, 1, 1])]) (us := [(21, .int .i64 (band .i64 a0.Holes 4))]) (d := 22) (t := ((band .i64 a0.Holes 4) == 0)) (by kernel_rfl) (fun h59 => ?_) (fun h60 => ?_)
    ·skip
     have hp61 := ite_t hv43 h59
     refine sx_run 5 (todo' := [.inRegion (opsOf (cd6 [1, 1, 1, 1, 1, 0, 1, 0])) [2], .code (cd6 [1, 1, 1, 1, 1, 1])]) (us := [(23, .func (.func 23) #[] #[.pointer (some ⟨b9, 0, none⟩), .pointer (some ⟨b1, 0, none⟩)]), (24, .pointer (some ⟨b15, 3, none⟩))]) (by kernel_rfl) ?_
     have hS62 := hS38.pick3
     refine r_store (c := (cd6 [1, 1, 1, 1, 1, 0, 1, 0])) (i := 2) (d := none) (ty := 0) (t := 29) (x := (.tmp 24)) (y := (.tmp 23)) (b := b15) (o := 3) (e := 31) (cs := [.string t34, cond t35 (.func (.func 21) #[] #[.pointer (some ⟨b9, 0, none⟩), .pointer (some ⟨b1, 0, none⟩)]) .nilFunc, cond t36 (.func (.func 22) #[] #[.pointer (some ⟨b9, 0, none⟩), .pointer (some ⟨b1, 0, none⟩)]) .nilFunc, .nilFunc]) (v := .func (.func 23) #[] #[.pointer (some ⟨b9, 0, none⟩), .pointer (some ⟨b1, 0, none⟩)]) (vs := [.func (.func 23) #[] #[.pointer (some ⟨b9, 0, none⟩), .pointer (some ⟨b1, 0, none⟩)]]) (cs' := [.string t34, cond t35 (.func (.func 21) #[] #[.pointer (some ⟨b9, 0, none⟩), .pointer (some ⟨b1, 0, none⟩)]) .nilFunc, cond t36 (.func (.func 22) #[] #[.pointer (some ⟨b9, 0, none⟩), .pointer (some ⟨b1, 0, none⟩)]) .nilFunc, .func (.func 23) #[] #[.pointer (some ⟨b9, 0, none⟩), .pointer (some ⟨b1, 0, none⟩)]]) hS62 (by kernel_rfl) (by kernel_rfl) (by kernel_rfl) (by kernel_rfl) (by kernel_rfl) (by kernel_rfl) (by kernel_rfl) (Nat.le_of_ble_eq_true (by kernel_rfl)) (by kernel_rfl) ?_
     intro w63 hS64
     refine sx_run 1 (todo' := [.code (cd6 [1, 1, 1, 1, 1, 1])]) (us := []) (by kernel_rfl) ?_
     have hS65 := hS64.pick1
     have hS66 := hS65.pick3
     have hS67 := hS66.pick2
     have hS68 := hS67.pick3
     refine Runs.fill (m := [none, none, some (.pointer (some ⟨b5, 0, none⟩)), none, some (.pointer (some ⟨b15, 0, none⟩)), none, none, none, none, none, none, none, none, none, none, none, none, none, none, none, none, none, none, none, none, none]) (by kernel_rfl) ?_
     exact J51 t34 t35 t36 true (Option.some.inj hp61) _ _ hS68
    ·skip
     have hp69 := ite_f hv43 h60
     refine sx_run 3 (todo' := [.code (cd6 [1, 1, 1, 1, 1, 1])]) (us := []) (by kernel_rfl) ?_
     have hS70 := hS38.pick2
     have hS71 := hS70.pick3
     have hS72 := hS71.pick3
     refine Runs.fill (m := [none, none, some (.pointer (some ⟨b5, 0, none⟩)), none, some (.pointer (some ⟨b15, 0, none⟩)), none, none, none, none, none, none, none, none, none, none, none, none, none, none, none, none, none, none, none, none, none]) (by kernel_rfl) ?_
     exact J51 t34 t35 t36 false (Option.some.inj hp69) _ _ hS72
   refine sx_split 2 (todo' := [.inRegion (opsOf (cd6 [1, 1, 1, 1, 0, 0])) [], .code (cd6 [1, 1, 1, 1, 0, 1]), .code (cd6 [1, 1, 1, 1, 1])]) (us := [(15, .int .i64 (band .i64 a0.Holes 2))]) (d := 16) (t := ((band .i64 a0.Holes 2) == 0)) (by kernel_rfl) (fun h73 => ?_) (fun h74 => ?_)
   ·skip
    have hp75 := ite_t hv32 h73
    refine sx_run 5 (todo' := [.inRegion (opsOf (cd6 [1, 1, 1, 1, 0, 1, 0])) [2], .code (cd6 [1, 1, 1, 1, 1])]) (us := [(17, .func (.func 22) #[] #[.pointer (some ⟨b9, 0, none⟩), .pointer (some ⟨b1, 0, none⟩)]), (18, .pointer (some ⟨b15, 2, none⟩))]) (by kernel_rfl) ?_
    have hS76 := hS27.pick3
    refine r_store (c := (cd6 [1, 1, 1, 1, 0, 1, 0])) (i := 2) (d := none) (ty := 0) (t := 28) (x := (.tmp 18)) (y := (.tmp 17)) (b := b15) (o := 2) (e := 31) (cs := [.string t24, cond t25 (.func (.func 21) #[] #[.pointer (some ⟨b9, 0, none⟩), .pointer (some ⟨b1, 0, none⟩)]) .nilFunc, .nilFunc, .nilFunc]) (v := .func (.func 22) #[] #[.pointer (some ⟨b9, 0, none⟩), .pointer (some ⟨b1, 0, none⟩)]) (vs := [.func (.func 22) #[] #[.pointer (some ⟨b9, 0, none⟩), .pointer (some ⟨b1, 0, none⟩)]]) (cs' := [.string t24, cond t25 (.func (.func 21) #[] #[.pointer (some ⟨b9, 0, none⟩), .pointer (some ⟨b1, 0, none⟩)]) .nilFunc, .func (.func 22) #[] #[.pointer (some ⟨b9, 0, none⟩), .pointer (some ⟨b1, 0, none⟩)], .nilFunc]) hS76 (by kernel_rfl) (by kernel_rfl) (by kernel_rfl) (by kernel_rfl) (by kernel_rfl) (by kernel_rfl) (by kernel_rfl) (Nat.le_of_ble_eq_true (by kernel_rfl)) (by kernel_rfl) ?_
    intro w77 hS78
    refine sx_run 1 (todo' := [.code (cd6 [1, 1, 1, 1, 1])]) (us := []) (by kernel_rfl) ?_
    have hS79 := hS78.pick3
    have hS80 := hS79.pick3
    have hS81 := hS80.pick3
    refine Runs.fill (m := [none, some (.pointer (some ⟨b1, 0, none⟩)), some (.pointer (some ⟨b5, 0, none⟩)), some (.pointer (some ⟨b9, 0, none⟩)), some (.pointer (some ⟨b15, 0, none⟩)), none, none, none, none, none, none, none, none, none, none, none, none, none, none, none, none, none, none, none, none, none]) (by kernel_rfl) ?_
    exact J39 t24 t25 true (Option.some.inj hp75) _ _ hS81
   ·skip
    have hp82 := ite_f hv32 h74
    refine sx_run 3 (todo' := [.code (cd6 [1, 1, 1, 1, 1])]) (us := []) (by kernel_rfl) ?_
    refine Runs.fill (m := [none, some (.pointer (some ⟨b1, 0, none⟩)), some (.pointer (some ⟨b5, 0, none⟩)), some (.pointer (some ⟨b9, 0, none⟩)), some (.pointer (some ⟨b15, 0, none⟩)), none, none, none, none, none, none, none, none, none, none, none, none, none, none, none, none, none, none, none, none, none]) (by kernel_rfl) ?_
    exact J39 t24 t25 false (Option.some.inj hp82) _ _ hS27
  refine sx_split 2 (todo' := [.inRegion (opsOf (cd6 [1, 1, 1, 0, 0])) [], .code (cd6 [1, 1, 1, 0, 1]), .code (cd6 [1, 1, 1, 1])]) (us := [(9, .int .i64 (band .i64 a0.Holes 1))]) (d := 10) (t := ((band .i64 a0.Holes 1) == 0)) (by kernel_rfl) (fun h83 => ?_) (fun h84 => ?_)
  ·skip
   have hp85 := ite_t hv22 h83
   refine sx_run 5 (todo' := [.inRegion (opsOf (cd6 [1, 1, 1, 0, 1, 0])) [2], .code (cd6 [1, 1, 1, 1])]) (us := [(11, .func (.func 21) #[] #[.pointer (some ⟨b9, 0, none⟩), .pointer (some ⟨b1, 0, none⟩)]), (12, .pointer (some ⟨b15, 1, none⟩))]) (by kernel_rfl) ?_
   refine r_store (c := (cd6 [1, 1, 1, 0, 1, 0])) (i := 2) (d := none) (ty := 0) (t := 27) (x := (.tmp 12)) (y := (.tmp 11)) (b := b15) (o := 1) (e := 31) (cs := [.string (⟨#[0]⟩ : ByteArray), .nilFunc, .nilFunc, .nilFunc]) (v := .func (.func 21) #[] #[.pointer (some ⟨b9, 0, none⟩), .pointer (some ⟨b1, 0, none⟩)]) (vs := [.func (.func 21) #[] #[.pointer (some ⟨b9, 0, none⟩), .pointer (some ⟨b1, 0, none⟩)]]) (cs' := [.string (⟨#[0]⟩ : ByteArray), .func (.func 21) #[] #[.pointer (some ⟨b9, 0, none⟩), .pointer (some ⟨b1, 0, none⟩)], .nilFunc, .nilFunc]) hS20 (by kernel_rfl) (by kernel_rfl) (by kernel_rfl) (by kernel_rfl) (by kernel_rfl) (by kernel_rfl) (by kernel_rfl) (Nat.le_of_ble_eq_true (by kernel_rfl)) (by kernel_rfl) ?_
   intro w86 hS87
   refine sx_run 1 (todo' := [.code (cd6 [1, 1, 1, 1])]) (us := []) (by kernel_rfl) ?_
   have hS88 := hS87.pick1
   have hS89 := hS88.pick2
   have hS90 := hS89.pick3
   refine Runs.fill (m := [none, some (.pointer (some ⟨b1, 0, none⟩)), some (.pointer (some ⟨b5, 0, none⟩)), some (.pointer (some ⟨b9, 0, none⟩)), some (.pointer (some ⟨b15, 0, none⟩)), none, none, none, none, none, none, none, none, none, none, none, none, none, none, none, none, none, none, none, none, none]) (by kernel_rfl) ?_
   exact J28 (⟨#[0]⟩ : ByteArray) true (Option.some.inj hp85) _ _ hS90
  ·skip
   have hp91 := ite_f hv22 h84
   refine sx_run 3 (todo' := [.code (cd6 [1, 1, 1, 1])]) (us := []) (by kernel_rfl) ?_
   have hS92 := hS20.pick1
   have hS93 := hS92.pick2
   have hS94 := hS93.pick3
   refine Runs.fill (m := [none, some (.pointer (some ⟨b1, 0, none⟩)), some (.pointer (some ⟨b5, 0, none⟩)), some (.pointer (some ⟨b9, 0, none⟩)), some (.pointer (some ⟨b15, 0, none⟩)), none, none, none, none, none, none, none, none, none, none, none, none, none, none, none, none, none, none, none, none, none]) (by kernel_rfl) ?_
   exact J28 (⟨#[0]⟩ : ByteArray) false (Option.some.inj hp91) _ _ hS94

noncomputable def cd20 (p : List Nat) : Code := sub (bodyOf Try.f20) p
def weirlaw15_Graph__Machine_1.f (a0 : ByteArray) (a1v : weirlaw15_Graph) : Option Int :=
  (if ((a0.size : Int) != 1) = true then some ((-1)) else (if 0 ≤ (0 : Int) ∧ (0 : Int) < (a0.size : Int) then (if (decide ((IntKind.i64.wrap (byt a0 (0 : Int))) ≥ (a1v.To.length : Int))) = true then some ((-1)) else (if 0 ≤ (0 : Int) ∧ (0 : Int) < (a0.size : Int) then some ((IntKind.i64.wrap (byt a0 (0 : Int)))) else none)) else none))
set_option maxHeartbeats 16000000 in
theorem weirlaw15_Graph__Machine_1.ok (a0 : ByteArray) (a1v : weirlaw15_Graph) (ba1 : Nat) (Aa1v_0 : Option Addr) (ca1v_0 : Nat) {w0 : World} {Z : Zm} {fs : List XObj} {w : World} (hS0 : St w0 Z (xblk ba1 25 ([.slice Aa1v_0 a1v.To.length ca1v_0, .int .u64 a1v.Ends, .bool a1v.Odd, .int .i64 a1v.Holes]) :: fs) w) (ha1v_0 : SlZ (repL (flat (encI .i64)) 1) 1 Z Aa1v_0 ca1v_0 a1v.To) {q0 : Int} (hp0 : weirlaw15_Graph__Machine_1.f a0 a1v = some q0) :
    Calls Try.prog 20 #[.string a0, .pointer (some ⟨ba1, 0, none⟩)] w (fun e w' => e = .returned (.int .i64 q0) ∧ St w0 Z (xblk ba1 25 ([.slice Aa1v_0 a1v.To.length ca1v_0, .int .u64 a1v.Ends, .bool a1v.Odd, .int .i64 a1v.Holes]) :: fs) w') := by
  refine calls_abs ?_; intro R hR
  unfold weirlaw15_Graph__Machine_1.f at hp0
  refine calls_of_runs (fn := Try.f20) (c := cd20 []) Try.func20 (by kernel_rfl) (al := [.string a0, .pointer (some ⟨ba1, 0, none⟩)]) rfl (n := 17) rfl ?_
  refine sx_run 6 (todo' := [.code (cd20 [1, 0, 0]), .code (cd20 [1, 0, 1]), .code (cd20 [1, 1])]) (us := [(3, .int .i64 0)]) (by kernel_rfl) ?_
  refine r_quiet hS0 (c := (cd20 [1, 0, 0])) (id := 1) (by kernel_rfl) (by kernel_rfl) (by kernel_rfl) (is := [0, 1, 2, 3, 4, 5, 6, 7, 8, 9, 10, 11]) (by kernel_rfl) ?_
  refine q_splitr 3 (is' := [3, 4, 5, 6, 7, 8, 9, 10, 11]) (us := [(4, .string a0), (5, .int .i64 (a0.size : Int))]) (d := 6) (t := ((a0.size : Int) != 1)) (by kernel_rfl) (fun h1 => ?_) (fun h2 => ?_)
  ·skip
   have hp3 := ite_t hp0 h1
   refine q_run 9 (is' := []) (us := [(7, .bool true), (8, undef), (9, undef), (10, undef), (11, undef), (12, undef), (13, undef), (14, undef), (15, .bool true)]) (by kernel_rfl) ?_
   refine Qs.nil ?_
   intro w4 hS5
   refine sx_run 5 (todo' := [.code (cd20 [1, 0, 1, 0, 1]), .code (cd20 [1, 1])]) (us := [(3, .int .i64 (-1))]) (by kernel_rfl) ?_
   refine runs_ret (fn := Try.f20) (v := .int .i64 (-1)) Try.func20 (by kernel_rfl) ?_
   have hr6 := (Option.some.inj hp3)
   cases hr6
   exact hR _ _ ⟨rfl, hS5⟩
  ·skip
   have hp7 := ite_f hp0 h2
   refine q_run 2 (is' := [5, 6, 7, 8, 9, 10, 11]) (us := [(7, .bool false), (8, .string a0)]) (by kernel_rfl) ?_
   obtain ⟨g8, hp9⟩ := ite_some hp7
   refine q_val (c := (cd20 [1, 0, 0])) (i := 5) (d := (some 9)) (ty := 5) (op := .index 9 (.tmp 8) (.const (.int .i64 0))) (v := .int .u8 (byt a0 (0 : Int))) (by kernel_rfl) (by kernel_rfl) (fun w hC o ho _ => x_indexStr (kk := .i64) (by kernel_rfl) (by kernel_rfl) (by kernel_rfl) g8.1 g8.2 ho) ?_
   refine q_run 2 (is' := [8, 9, 10, 11]) (us := [(10, .int .i64 (IntKind.i64.wrap (byt a0 (0 : Int)))), (11, .pointer (some ⟨ba1, 0, none⟩))]) (by kernel_rfl) ?_
   refine q_load (c := (cd20 [1, 0, 0])) (i := 8) (d := (some 12)) (ty := 22) (t := 22) (x := (.tmp 11)) (p := ⟨ba1, 0, none⟩) (v := .slice Aa1v_0 a1v.To.length ca1v_0) (by kernel_rfl) (by kernel_rfl) (by kernel_rfl) (fun w hC => (loads_at 0 (hC.blk 0 rfl) (by kernel_rfl) (by kernel_rfl))) ?_
   refine q_splitr 2 (is' := [11]) (us := [(13, .int .i64 (a1v.To.length : Int))]) (d := 14) (t := (decide ((IntKind.i64.wrap (byt a0 (0 : Int))) ≥ (a1v.To.length : Int)))) (by kernel_rfl) (fun h10 => ?_) (fun h11 => ?_)
   ·skip
    have hp12 := ite_t hp9 h10
    refine q_run 1 (is' := []) (us := [(15, .bool true)]) (by kernel_rfl) ?_
    refine Qs.nil ?_
    intro w13 hS14
    refine sx_run 5 (todo' := [.code (cd20 [1, 0, 1, 0, 1]), .code (cd20 [1, 1])]) (us := [(3, .int .i64 (-1))]) (by kernel_rfl) ?_
    refine runs_ret (fn := Try.f20) (v := .int .i64 (-1)) Try.func20 (by kernel_rfl) ?_
    have hr15 := (Option.some.inj hp12)
    cases hr15
    exact hR _ _ ⟨rfl, hS14⟩
   ·skip
    have hp16 := ite_f hp9 h11
    refine q_run 1 (is' := []) (us := [(15, .bool false)]) (by kernel_rfl) ?_
    refine Qs.nil ?_
    intro w17 hS18
    refine sx_run 5 (todo' := [.inRegion (opsOf (cd20 [1, 1, 0])) [1, 2, 3], .code (cd20 [1, 1, 1])]) (us := [(16, .string a0)]) (by kernel_rfl) ?_
    obtain ⟨g19, hp20⟩ := ite_some hp16
    refine r_val (c := (cd20 [1, 1, 0])) (i := 1) (d := (some 17)) (ty := 5) (op := .index 9 (.tmp 16) (.const (.int .i64 0))) (v := .int .u8 (byt a0 (0 : Int))) (by kernel_rfl) (by kernel_rfl) (fun o ho _ => x_indexStr (kk := .i64) (by kernel_rfl) (by kernel_rfl) (by kernel_rfl) g19.1 g19.2 ho) ?_
    refine sx_run 3 (todo' := [.code (cd20 [1, 1, 1])]) (us := [(18, .int .i64 (IntKind.i64.wrap (byt a0 (0 : Int)))), (3, .int .i64 (IntKind.i64.wrap (byt a0 (0 : Int))))]) (by kernel_rfl) ?_
    refine runs_ret (fn := Try.f20) (v := .int .i64 (IntKind.i64.wrap (byt a0 (0 : Int)))) Try.func20 (by kernel_rfl) ?_
    have hr21 := (Option.some.inj hp20)
    cases hr21
    exact hR _ _ ⟨rfl, hS18⟩

noncomputable def cd22 (p : List Nat) : Code := sub (bodyOf Try.f22) p
def weirlaw15_Graph__Machine_3.f (a0 : ByteArray) (a1 : api_Pick) (a2vc0v : weirlaw15_Graph) : Option (ByteArray × Bool) :=
  (weirlaw15_Graph__Machine_1.f a0 (⟨a2vc0v.To, a2vc0v.Ends, a2vc0v.Odd, a2vc0v.Holes⟩ : weirlaw15_Graph) >>= (fun t5 => (if (decide (t5 < 0)) = true then some (((⟨#[]⟩ : ByteArray), false)) else (if (a1.Kind != 1) = true then some (((⟨#[]⟩ : ByteArray), false)) else (if (a1.Loc != 0) = true then some (((⟨#[]⟩ : ByteArray), false)) else (if (decide (a1.Thread < 0)) = true then some (((⟨#[]⟩ : ByteArray), false)) else (if 0 ≤ t5 ∧ t5 < (a2vc0v.To.length : Int) then (if (decide (a1.Thread ≥ ((gt a2vc0v.To t5).length : Int))) = true then some (((⟨#[]⟩ : ByteArray), false)) else (if 0 ≤ t5 ∧ t5 < (a2vc0v.To.length : Int) then (if 0 ≤ a1.Thread ∧ a1.Thread < ((gt a2vc0v.To t5).length : Int) then (if (decide ((gt (gt a2vc0v.To t5) a1.Thread) ≥ 0)) = true then some (((ofBytes ([(IntKind.u8.wrap (gt (gt a2vc0v.To t5) a1.Thread))] : List Int)), (decide ((gt (gt a2vc0v.To t5) a1.Thread) < (a2vc0v.To.length : Int))))) else some (((ofBytes ([(IntKind.u8.wrap (gt (gt a2vc0v.To t5) a1.Thread))] : List Int)), false))) else none) else none)) else none)))))))
set_option maxHeartbeats 16000000 in
theorem weirlaw15_Graph__Machine_3.ok (a0 : ByteArray) (a1 : api_Pick) (a2vc0v : weirlaw15_Graph) (ba2 : Nat) (ba2vc0 : Nat) (Aa2vc0v_0 : Option Addr) (ca2vc0v_0 : Nat) {w0 : World} {Z : Zm} {fs : List XObj} {w : World} (hS0 : St w0 Z (xblk ba2 53 ([.func (.func 20) #[] #[.pointer (some ⟨ba2vc0, 0, none⟩)]]) :: xblk ba2vc0 25 ([.slice Aa2vc0v_0 a2vc0v.To.length ca2vc0v_0, .int .u64 a2vc0v.Ends, .bool a2vc0v.Odd, .int .i64 a2vc0v.Holes]) :: fs) w) (ha2vc0v_0 : SlZ (repL (flat (encI .i64)) 1) 1 Z Aa2vc0v_0 ca2vc0v_0 a2vc0v.To) {q0 : ByteArray} {q1 : Bool} (hp0 : weirlaw15_Graph__Machine_3.f a0 a1 a2vc0v = some (q0, q1)) :
    Calls Try.prog 22 #[.string a0, .agg (enc_api_Pick a1).toArray, .pointer (some ⟨ba2, 0, none⟩), .pointer (some ⟨ba2vc0, 0, none⟩)] w (fun e w' => e = .returned (.tuple #[.string q0, .bool q1]) ∧ St w0 Z (xblk ba2 53 ([.func (.func 20) #[] #[.pointer (some ⟨ba2vc0, 0, none⟩)]]) :: xblk ba2vc0 25 ([.slice Aa2vc0v_0 a2vc0v.To.length ca2vc0v_0, .int .u64 a2vc0v.Ends, .bool a2vc0v.Odd, .int .i64 a2vc0v.Holes]) :: fs) w') := by
  refine calls_abs ?_; intro R hR
  unfold weirlaw15_Graph__Machine_3.f at hp0
  refine calls_of_runs (fn := Try.f22) (c := cd22 []) Try.func22 (by kernel_rfl) (al := [.string a0, .agg (enc_api_Pick a1).toArray, .pointer (some ⟨ba2, 0, none⟩), .pointer (some ⟨ba2vc0, 0, none⟩)]) rfl (n := 59) rfl ?_
  refine sx_run 2 (todo' := [.inRegion (opsOf (cd22 [0])) [0, 1, 2], .code (cd22 [1])]) (us := []) (by kernel_rfl) ?_
  refine r_box (c := (cd22 [0])) (i := 0) (d := (some 5)) (ty := 0) (x := (.tmp 1)) (v := .agg (enc_api_Pick a1).toArray) (t := 39) (cs := enc_api_Pick a1) hS0 (by kernel_rfl) (by kernel_rfl) (by kernel_rfl) (by kernel_rfl) ?_
  intro b1 w2 hS3
  refine sx_run 5 (todo' := [.inRegion (opsOf (cd22 [1, 0])) [0, 1, 2, 3], .code (cd22 [1, 1])]) (us := [(6, .string (⟨#[]⟩ : ByteArray)), (7, .bool false)]) (by kernel_rfl) ?_
  refine r_load (c := (cd22 [1, 0])) (i := 0) (d := (some 10)) (ty := 53) (t := 53) (x := (.tmp 2)) (p := ⟨ba2, 0, none⟩) (v := .func (.func 20) #[] #[.pointer (some ⟨ba2vc0, 0, none⟩)]) (by kernel_rfl) (by kernel_rfl) (by kernel_rfl) (loads_at 0 (hS3.blk 1 rfl) (by kernel_rfl) (by kernel_rfl)) ?_
  refine sx_run 1 (todo' := [.inRegion (opsOf (cd22 [1, 0])) [2, 3], .code (cd22 [1, 1])]) (us := [(11, .string a0)]) (by kernel_rfl) ?_
  obtain ⟨t5, hr6, hp7⟩ := bind_some' hp0
  have hS9 := hS3.pick2
  refine r_call1 (c := (cd22 [1, 0])) (i := 2) (d := (some 12)) (g := 20) (args := #[.string a0, .pointer (some ⟨ba2vc0, 0, none⟩)]) (by kernel_rfl) (by kernel_rfl) (by kernel_rfl) (by kernel_rfl) (weirlaw15_Graph__Machine_1.ok a0 (⟨a2vc0v.To, a2vc0v.Ends, a2vc0v.Odd, a2vc0v.Holes⟩ : weirlaw15_Graph) ba2vc0 Aa2vc0v_0 ca2vc0v_0 hS9 ha2vc0v_0 hr6) ?_
  rintro _ w10 ⟨rfl, hS11⟩
  refine ⟨.int .i64 t5, rfl, ?_⟩
  refine sx_run 4 (todo' := [.code (cd22 [1, 1, 0, 0]), .code (cd22 [1, 1, 0, 1]), .code (cd22 [1, 1, 1])]) (us := [(8, .int .i64 t5)]) (by kernel_rfl) ?_
  refine r_quiet hS11 (c := (cd22 [1, 1, 0, 0])) (id := 2) (by kernel_rfl) (by kernel_rfl) (by kernel_rfl) (is := [0, 1, 2, 3, 4, 5, 6, 7, 8, 9, 10, 11, 12, 13, 14, 15, 16, 17, 18, 19, 20, 21, 22, 23, 24, 25, 26, 27]) (by kernel_rfl) ?_
  refine q_splitr 2 (is' := [2, 3, 4, 5, 6, 7, 8, 9, 10, 11, 12, 13, 14, 15, 16, 17, 18, 19, 20, 21, 22, 23, 24, 25, 26, 27]) (us := [(13, .int .i64 t5)]) (d := 14) (t := (decide (t5 < 0))) (by kernel_rfl) (fun h12 => ?_) (fun h13 => ?_)
  ·skip
   have hp14 := ite_t hp7 h12
   refine q_run 26 (is' := []) (us := [(15, .bool true), (16, undef), (17, undef), (18, undef), (19, .bool true), (20, .bool true), (21, undef), (22, undef), (23, undef), (24, .bool true), (25, .bool true), (26, undef), (27, undef), (28, undef), (29, .bool true), (30, .bool true), (31, undef), (32, undef), (33, undef), (34, undef), (35, undef), (36, undef), (37, undef), (38, undef), (39, undef), (40, .bool true)]) (by kernel_rfl) ?_
   refine Qs.nil ?_
   intro w15 hS16
   refine sx_run 6 (todo' := [.code (cd22 [1, 1, 0, 1, 0, 1]), .code (cd22 [1, 1, 1])]) (us := [(6, .string (⟨#[]⟩ : ByteArray)), (7, .bool false)]) (by kernel_rfl) ?_
   have hS17 := hS16.pick1
   have hS18 := hS17.drop
   have hS19 := hS18.pick1
   refine runs_ret (fn := Try.f22) (v := .tuple #[.string (⟨#[]⟩ : ByteArray), .bool false]) Try.func22 (by kernel_rfl) ?_
   have hr20 := (Option.some.inj hp14)
   cases hr20
   exact hR _ _ ⟨rfl, hS19⟩
  ·skip
   have hp21 := ite_f hp7 h13
   refine q_run 2 (is' := [4, 5, 6, 7, 8, 9, 10, 11, 12, 13, 14, 15, 16, 17, 18, 19, 20, 21, 22, 23, 24, 25, 26, 27]) (us := [(15, .bool false), (16, .pointer (some ⟨b1, 1, none⟩))]) (by kernel_rfl) ?_
   refine q_load (c := (cd22 [1, 1, 0, 0])) (i := 4) (d := (some 17)) (ty := 3) (t := 3) (x := (.tmp 16)) (p := ⟨b1, 1, none⟩) (v := .int .i64 a1.Kind) (by kernel_rfl) (by kernel_rfl) (by kernel_rfl) (fun w hC => (loads_at 1 (hC.blk 1 rfl) (by kernel_rfl) (by kernel_rfl))) ?_
   refine q_splitr 1 (is' := [6, 7, 8, 9, 10, 11, 12, 13, 14, 15, 16, 17, 18, 19, 20, 21, 22, 23, 24, 25, 26, 27]) (us := []) (d := 18) (t := (a1.Kind != 1)) (by kernel_rfl) (fun h22 => ?_) (fun h23 => ?_)
   ·skip
    have hp24 := ite_t hp21 h22
    refine q_run 22 (is' := []) (us := [(19, .bool true), (20, .bool true), (21, undef), (22, undef), (23, undef), (24, .bool true), (25, .bool true), (26, undef), (27, undef), (28, undef), (29, .bool true), (30, .bool true), (31, undef), (32, undef), (33, undef), (34, undef), (35, undef), (36, undef), (37, undef), (38, undef), (39, undef), (40, .bool true)]) (by kernel_rfl) ?_
    refine Qs.nil ?_
    intro w25 hS26
    refine sx_run 6 (todo' := [.code (cd22 [1, 1, 0, 1, 0, 1]), .code (cd22 [1, 1, 1])]) (us := [(6, .string (⟨#[]⟩ : ByteArray)), (7, .bool false)]) (by kernel_rfl) ?_
    have hS27 := hS26.pick1
    have hS28 := hS27.drop
    have hS29 := hS28.pick1
    refine runs_ret (fn := Try.f22) (v := .tuple #[.string (⟨#[]⟩ : ByteArray), .bool false]) Try.func22 (by kernel_rfl) ?_
    have hr30 := (Option.some.inj hp24)
    cases hr30
    exact hR _ _ ⟨rfl, hS29⟩
   ·skip
    have hp31 := ite_f hp21 h23
    refine q_run 3 (is' := [9, 10, 11, 12, 13, 14, 15, 16, 17, 18, 19, 20, 21, 22, 23, 24, 25, 26, 27]) (us := [(19, .bool false), (20, .bool false), (21, .pointer (some ⟨b1, 2, none⟩))]) (by kernel_rfl) ?_
    refine q_load (c := (cd22 [1, 1, 0, 0])) (i := 9) (d := (some 22)) (ty := 3) (t := 3) (x := (.tmp 21)) (p := ⟨b1, 2, none⟩) (v := .int .i64 a1.Loc) (by kernel_rfl) (by kernel_rfl) (by kernel_rfl) (fun w hC => (loads_at 2 (hC.blk 1 rfl) (by kernel_rfl) (by kernel_rfl))) ?_
    refine q_splitr 1 (is' := [11, 12, 13, 14, 15, 16, 17, 18, 19, 20, 21, 22, 23, 24, 25, 26, 27]) (us := []) (d := 23) (t := (a1.Loc != 0)) (by kernel_rfl) (fun h32 => ?_) (fun h33 => ?_)
    ·skip
     have hp34 := ite_t hp31 h32
     refine q_run 17 (is' := []) (us := [(24, .bool true), (25, .bool true), (26, undef), (27, undef), (28, undef), (29, .bool true), (30, .bool true), (31, undef), (32, undef), (33, undef), (34, undef), (35, undef), (36, undef), (37, undef), (38, undef), (39, undef), (40, .bool true)]) (by kernel_rfl) ?_
     refine Qs.nil ?_
     intro w35 hS36
     refine sx_run 6 (todo' := [.code (cd22 [1, 1, 0, 1, 0, 1]), .code (cd22 [1, 1, 1])]) (us := [(6, .string (⟨#[]⟩ : ByteArray)), (7, .bool false)]) (by kernel_rfl) ?_
     have hS37 := hS36.pick1
     have hS38 := hS37.drop
     have hS39 := hS38.pick1
     refine runs_ret (fn := Try.f22) (v := .tuple #[.string (⟨#[]⟩ : ByteArray), .bool false]) Try.func22 (by kernel_rfl) ?_
     have hr40 := (Option.some.inj hp34)
     cases hr40
     exact hR _ _ ⟨rfl, hS39⟩
    ·skip
     have hp41 := ite_f hp31 h33
     refine q_run 3 (is' := [14, 15, 16, 17, 18, 19, 20, 21, 22, 23, 24, 25, 26, 27]) (us := [(24, .bool false), (25, .bool false), (26, .pointer (some ⟨b1, 0, none⟩))]) (by kernel_rfl) ?_
     refine q_load (c := (cd22 [1, 1, 0, 0])) (i := 14) (d := (some 27)) (ty := 3) (t := 3) (x := (.tmp 26)) (p := ⟨b1, 0, none⟩) (v := .int .i64 a1.Thread) (by kernel_rfl) (by kernel_rfl) (by kernel_rfl) (fun w hC => (loads_at 0 (hC.blk 1 rfl) (by kernel_rfl) (by kernel_rfl))) ?_
     refine q_splitr 1 (is' := [16, 17, 18, 19, 20, 21, 22, 23, 24, 25, 26, 27]) (us := []) (d := 28) (t := (decide (a1.Thread < 0))) (by kernel_rfl) (fun h42 => ?_) (fun h43 => ?_)
     ·skip
      have hp44 := ite_t hp41 h42
      refine q_run 12 (is' := []) (us := [(29, .bool true), (30, .bool true), (31, undef), (32, undef), (33, undef), (34, undef), (35, undef), (36, undef), (37, undef), (38, undef), (39, undef), (40, .bool true)]) (by kernel_rfl) ?_
      refine Qs.nil ?_
      intro w45 hS46
      refine sx_run 6 (todo' := [.code (cd22 [1, 1, 0, 1, 0, 1]), .code (cd22 [1, 1, 1])]) (us := [(6, .string (⟨#[]⟩ : ByteArray)), (7, .bool false)]) (by kernel_rfl) ?_
      have hS47 := hS46.pick1
      have hS48 := hS47.drop
      have hS49 := hS48.pick1
      refine runs_ret (fn := Try.f22) (v := .tuple #[.string (⟨#[]⟩ : ByteArray), .bool false]) Try.func22 (by kernel_rfl) ?_
      have hr50 := (Option.some.inj hp44)
      cases hr50
      exact hR _ _ ⟨rfl, hS49⟩
     ·skip
      have hp51 := ite_f hp41 h43
      refine q_run 3 (is' := [19, 20, 21, 22, 23, 24, 25, 26, 27]) (us := [(29, .bool false), (30, .bool false), (31, .pointer (some ⟨b1, 0, none⟩))]) (by kernel_rfl) ?_
      refine q_load (c := (cd22 [1, 1, 0, 0])) (i := 19) (d := (some 32)) (ty := 3) (t := 3) (x := (.tmp 31)) (p := ⟨b1, 0, none⟩) (v := .int .i64 a1.Thread) (by kernel_rfl) (by kernel_rfl) (by kernel_rfl) (fun w hC => (loads_at 0 (hC.blk 1 rfl) (by kernel_rfl) (by kernel_rfl))) ?_
      refine q_run 1 (is' := [21, 22, 23, 24, 25, 26, 27]) (us := [(33, .pointer (some ⟨ba2vc0, 0, none⟩))]) (by kernel_rfl) ?_
      refine q_load (c := (cd22 [1, 1, 0, 0])) (i := 21) (d := (some 34)) (ty := 22) (t := 22) (x := (.tmp 33)) (p := ⟨ba2vc0, 0, none⟩) (v := .slice Aa2vc0v_0 a2vc0v.To.length ca2vc0v_0) (by kernel_rfl) (by kernel_rfl) (by kernel_rfl) (fun w hC => (loads_at 0 (hC.blk 0 rfl) (by kernel_rfl) (by kernel_rfl))) ?_
      refine q_run 1 (is' := [23, 24, 25, 26, 27]) (us := [(35, .int .i64 t5)]) (by kernel_rfl) ?_
      obtain ⟨g52, hp53⟩ := ite_some hp51
      obtain ⟨b54, p55, cs58, hA56, hr59, hl60, hc57⟩ := ha2vc0v_0.at_ g52.1 g52.2
      obtain ⟨A61, c62, rfl, hs63⟩ := hr59
      refine q_indexAddr (c := (cd22 [1, 1, 0, 0])) (i := 23) (d := (some 36)) (ty := 0) (t := 22) (e := 54) (n := a2vc0v.To.length) (cp := ca2vc0v_0) (sz := 1) (kk := .i64) (x := (.tmp 34)) (y := (.tmp 35)) (b := b54) (o' := p55) (j := t5) (by kernel_rfl) (by kernel_rfl) (slv (by kernel_rfl) hA56) (by kernel_rfl) (by kernel_rfl) (by kernel_rfl) g52.1 g52.2 ?_
      refine q_load (c := (cd22 [1, 1, 0, 0])) (i := 24) (d := (some 37)) (ty := 54) (t := 54) (x := (.tmp 36)) (p := ⟨b54, p55 + t5.toNat * 1, none⟩) (v := .slice A61 (gt a2vc0v.To t5).length c62) (by kernel_rfl) (by kernel_rfl) (by kernel_rfl) (fun w hC => (loads_at 0 (hc57.cells hC) (by kernel_rfl) (by kernel_rfl))) ?_
      refine q_splitr 2 (is' := [27]) (us := [(38, .int .i64 ((gt a2vc0v.To t5).length : Int))]) (d := 39) (t := (decide (a1.Thread ≥ ((gt a2vc0v.To t5).length : Int)))) (by kernel_rfl) (fun h65 => ?_) (fun h66 => ?_)
      ·skip
       have hp67 := ite_t hp53 h65
       refine q_run 1 (is' := []) (us := [(40, .bool true)]) (by kernel_rfl) ?_
       refine Qs.nil ?_
       intro w68 hS69
       refine sx_run 6 (todo' := [.code (cd22 [1, 1, 0, 1, 0, 1]), .code (cd22 [1, 1, 1])]) (us := [(6, .string (⟨#[]⟩ : ByteArray)), (7, .bool false)]) (by kernel_rfl) ?_
       have hS70 := hS69.pick1
       have hS71 := hS70.drop
       have hS72 := hS71.pick1
       refine runs_ret (fn := Try.f22) (v := .tuple #[.string (⟨#[]⟩ : ByteArray), .bool false]) Try.func22 (by kernel_rfl) ?_
       have hr73 := (Option.some.inj hp67)
       cases hr73
       exact hR _ _ ⟨rfl, hS72⟩
      ·skip
       have hp74 := ite_f hp53 h66
       refine q_run 1 (is' := []) (us := [(40, .bool false)]) (by kernel_rfl) ?_
       refine Qs.nil ?_
       intro w75 hS76
       refine sx_run 3 (todo' := [.code (cd22 [1, 1, 1, 0]), .code (cd22 [1, 1, 1, 1])]) (us := []) (by kernel_rfl) ?_
       refine r_quiet hS76 (c := (cd22 [1, 1, 1, 0])) (id := 4) (by kernel_rfl) (by kernel_rfl) (by kernel_rfl) (is := [0, 1, 2, 3, 4, 5, 6, 7, 8, 9]) (by kernel_rfl) ?_
       refine q_run 1 (is' := [1, 2, 3, 4, 5, 6, 7, 8, 9]) (us := [(41, .pointer (some ⟨ba2vc0, 0, none⟩))]) (by kernel_rfl) ?_
       refine q_load (c := (cd22 [1, 1, 1, 0])) (i := 1) (d := (some 42)) (ty := 22) (t := 22) (x := (.tmp 41)) (p := ⟨ba2vc0, 0, none⟩) (v := .slice Aa2vc0v_0 a2vc0v.To.length ca2vc0v_0) (by kernel_rfl) (by kernel_rfl) (by kernel_rfl) (fun w hC => (loads_at 0 (hC.blk 0 rfl) (by kernel_rfl) (by kernel_rfl))) ?_
       refine q_run 1 (is' := [3, 4, 5, 6, 7, 8, 9]) (us := [(43, .int .i64 t5)]) (by kernel_rfl) ?_
       obtain ⟨g77, hp78⟩ := ite_some hp74
       obtain ⟨b79, p80, cs83, hA81, hr84, hl85, hc82⟩ := ha2vc0v_0.at_ g77.1 g77.2
       obtain ⟨A86, c87, rfl, hs88⟩ := hr84
       refine q_indexAddr (c := (cd22 [1, 1, 1, 0])) (i := 3) (d := (some 44)) (ty := 0) (t := 22) (e := 54) (n := a2vc0v.To.length) (cp := ca2vc0v_0) (sz := 1) (kk := .i64) (x := (.tmp 42)) (y := (.tmp 43)) (b := b79) (o' := p80) (j := t5) (by kernel_rfl) (by kernel_rfl) (slv (by kernel_rfl) hA81) (by kernel_rfl) (by kernel_rfl) (by kernel_rfl) g77.1 g77.2 ?_
       refine q_load (c := (cd22 [1, 1, 1, 0])) (i := 4) (d := (some 45)) (ty := 54) (t := 54) (x := (.tmp 44)) (p := ⟨b79, p80 + t5.toNat * 1, none⟩) (v := .slice A86 (gt a2vc0v.To t5).length c87) (by kernel_rfl) (by kernel_rfl) (by kernel_rfl) (fun w hC => (loads_at 0 (hc82.cells hC) (by kernel_rfl) (by kernel_rfl))) ?_
       refine q_run 1 (is' := [6, 7, 8, 9]) (us := [(46, .pointer (some ⟨b1, 0, none⟩))]) (by kernel_rfl) ?_
       refine q_load (c := (cd22 [1, 1, 1, 0])) (i := 6) (d := (some 47)) (ty := 3) (t := 3) (x := (.tmp 46)) (p := ⟨b1, 0, none⟩) (v := .int .i64 a1.Thread) (by kernel_rfl) (by kernel_rfl) (by kernel_rfl) (fun w hC => (loads_at 0 (hC.blk 1 rfl) (by kernel_rfl) (by kernel_rfl))) ?_
       obtain ⟨g90, hp91⟩ := ite_some hp78
       obtain ⟨b92, p93, hA94, hc95⟩ := hs88.atF g90.1 g90.2
       refine q_indexAddr (c := (cd22 [1, 1, 1, 0])) (i := 7) (d := (some 48)) (ty := 0) (t := 54) (e := 3) (n := (gt a2vc0v.To t5).length) (cp := c87) (sz := 1) (kk := .i64) (x := (.tmp 45)) (y := (.tmp 47)) (b := b92) (o' := p93) (j := a1.Thread) (by kernel_rfl) (by kernel_rfl) (slv (by kernel_rfl) hA94) (by kernel_rfl) (by kernel_rfl) (by kernel_rfl) g90.1 g90.2 ?_
       refine q_load (c := (cd22 [1, 1, 1, 0])) (i := 8) (d := (some 49)) (ty := 3) (t := 3) (x := (.tmp 48)) (p := ⟨b92, p93 + a1.Thread.toNat * 1, none⟩) (v := .int .i64 (gt (gt a2vc0v.To t5) a1.Thread)) (by kernel_rfl) (by kernel_rfl) (by kernel_rfl) (fun w hC => (loads_at 0 (hc95.cells hC) (by kernel_rfl) (by kernel_rfl))) ?_
       refine q_run 1 (is' := []) (us := [(9, .int .i64 (gt (gt a2vc0v.To t5) a1.Thread))]) (by kernel_rfl) ?_
       refine Qs.nil ?_
       intro w96 hS97
       refine sx_run 1 (todo' := [.code (cd22 [1, 1, 1, 1, 0]), .code (cd22 [1, 1, 1, 1, 1])]) (us := []) (by kernel_rfl) ?_
       rcases Bool.eq_false_or_eq_true (decide ((gt (gt a2vc0v.To t5) a1.Thread) ≥ 0)) with h100 | h100
       ·skip
        have hp101 := ite_t hp91 h100
        refine r_drawnH (S := Option Nat) (rank := (fun st => match st with | none => 0 | some b98 => 1)) (C := (fun st w' => match st with | none => St w0 Z (xblk ba2vc0 25 ([.slice Aa2vc0v_0 a2vc0v.To.length ca2vc0v_0, .int .u64 a2vc0v.Ends, .bool a2vc0v.Odd, .int .i64 a2vc0v.Holes]) :: xblk b1 39 (enc_api_Pick a1) :: xblk ba2 53 ([.func (.func 20) #[] #[.pointer (some ⟨ba2vc0, 0, none⟩)]]) :: fs) w' | some b98 => St w0 Z (xrow (some ⟨b98, 0, none⟩) 1 5 1 (([(IntKind.u8.wrap (gt (gt a2vc0v.To t5) a1.Thread))] : List Int).flatMap (encI .u8)) :: xblk ba2vc0 25 ([.slice Aa2vc0v_0 a2vc0v.To.length ca2vc0v_0, .int .u64 a2vc0v.Ends, .bool a2vc0v.Odd, .int .i64 a2vc0v.Holes]) :: xblk b1 39 (enc_api_Pick a1) :: xblk ba2 53 ([.func (.func 20) #[] #[.pointer (some ⟨ba2vc0, 0, none⟩)]]) :: fs) w')) (v := (fun st => match st with | none => [.int .i64 (gt (gt a2vc0v.To t5) a1.Thread), .int .u8 (IntKind.u8.wrap (gt (gt a2vc0v.To t5) a1.Thread)), undef, undef, .int .i64 (gt (gt a2vc0v.To t5) a1.Thread), .bool (decide ((gt (gt a2vc0v.To t5) a1.Thread) ≥ 0)), .bool true, .int .i64 (gt (gt a2vc0v.To t5) a1.Thread), .pointer (some ⟨ba2vc0, 0, none⟩), .slice Aa2vc0v_0 a2vc0v.To.length ca2vc0v_0, .int .i64 (a2vc0v.To.length : Int), .bool (decide ((gt (gt a2vc0v.To t5) a1.Thread) < (a2vc0v.To.length : Int))), .bool (decide ((gt (gt a2vc0v.To t5) a1.Thread) < (a2vc0v.To.length : Int))), undef, undef] | some b98 => [.int .i64 (gt (gt a2vc0v.To t5) a1.Thread), .int .u8 (IntKind.u8.wrap (gt (gt a2vc0v.To t5) a1.Thread)), .slice (some ⟨b98, 0, none⟩) ([(IntKind.u8.wrap (gt (gt a2vc0v.To t5) a1.Thread))] : List Int).length 1, .string (ofBytes ([(IntKind.u8.wrap (gt (gt a2vc0v.To t5) a1.Thread))] : List Int)), .int .i64 (gt (gt a2vc0v.To t5) a1.Thread), .bool (decide ((gt (gt a2vc0v.To t5) a1.Thread) ≥ 0)), .bool true, .int .i64 (gt (gt a2vc0v.To t5) a1.Thread), .pointer (some ⟨ba2vc0, 0, none⟩), .slice Aa2vc0v_0 a2vc0v.To.length ca2vc0v_0, .int .i64 (a2vc0v.To.length : Int), .bool (decide ((gt (gt a2vc0v.To t5) a1.Thread) < (a2vc0v.To.length : Int))), .bool (decide ((gt (gt a2vc0v.To t5) a1.Thread) < (a2vc0v.To.length : Int))), .string (ofBytes ([(IntKind.u8.wrap (gt (gt a2vc0v.To t5) a1.Thread))] : List Int)), .bool (decide ((gt (gt a2vc0v.To t5) a1.Thread) < (a2vc0v.To.length : Int)))])) (c := (cd22 [1, 1, 1, 1, 0])) (id := 5) none 0 15 [2] [0, 0, 0, 1, 0, 0, 0, 0, 0, 0, 0, 0, 0, 1, 1] [1, 0, 1, 1, 1, 1, 1, 1, 1, 1, 1, 1, 1, 1, 1] [] [true, true, true, true, true, true, true, true, true, true, true, true, true, true, true] (by kernel_rfl) (by kernel_rfl) (by kernel_rfl) (by kernel_rfl) (by kernel_rfl) (by kernel_rfl) (by kernel_rfl) (by kernel_rfl) (by kernel_rfl) rfl hS97.drew ?_ ?_ (fun k hk => match k, hk with | 0, _ => rfl | k + 1, hk => absurd hk (by simp)) ?_ ?_ ?_
        ·intro st w hC
         rcases st with _ | b98
         ·exact Nat.le_of_ble_eq_true rfl
         ·exact Nat.le_of_ble_eq_true rfl
        ·intro i hi st w hC hr
         match i, hi with
         | 0, _ => (show _ = _; kernel_rfl)
         | 1, _ => (show _ = _; kernel_rfl)
         | 2, _ => (show _ = _; kernel_rfl)
         | 3, _ => (show _ = _; kernel_rfl)
         | 4, _ => (show _ = _; kernel_rfl)
         | 5, _ => (show _ = _; kernel_rfl)
         | 6, _ => (show _ = _; kernel_rfl)
         | 7, _ =>
          rcases st with _ | b98
          ·(show _ = _; kernel_rfl)
          ·(show _ = _; kernel_rfl)
         | 8, _ =>
          rcases st with _ | b98
          ·(show _ = _; kernel_rfl)
          ·(show _ = _; kernel_rfl)
         | 9, _ =>
          rcases st with _ | b98
          ·(show _ = _; kernel_rfl)
          ·(show _ = _; kernel_rfl)
         | 10, _ =>
          rcases st with _ | b98
          ·(show _ = _; kernel_rfl)
          ·(show _ = _; kernel_rfl)
         | 11, _ =>
          rcases st with _ | b98
          ·(show _ = _; kernel_rfl)
          ·(show _ = _; kernel_rfl)
         | 12, _ => (show _ = _; kernel_rfl)
         | 13, _ => (show _ = _; kernel_rfl)
         | 14, _ => (show _ = _; kernel_rfl)
         | i + 15, hi => exact absurd hi (by omega)
        ·intro i hi he st w hC hr hu
         match i, hi, he with
         | 0, _, _ =>
          rcases st with _ | b98
          ·replace hC : St w0 Z (xblk ba2vc0 25 ([.slice Aa2vc0v_0 a2vc0v.To.length ca2vc0v_0, .int .u64 a2vc0v.Ends, .bool a2vc0v.Odd, .int .i64 a2vc0v.Holes]) :: xblk b1 39 (enc_api_Pick a1) :: xblk ba2 53 ([.func (.func 20) #[] #[.pointer (some ⟨ba2vc0, 0, none⟩)]]) :: fs) w := hC
           exact ⟨fun _ => does_pure (v := .int .i64 (gt (gt a2vc0v.To t5) a1.Thread)) (by kernel_rfl) rfl hC, fun h => absurd h (by decide)⟩
          ·replace hC : St w0 Z (xrow (some ⟨b98, 0, none⟩) 1 5 1 (([(IntKind.u8.wrap (gt (gt a2vc0v.To t5) a1.Thread))] : List Int).flatMap (encI .u8)) :: xblk ba2vc0 25 ([.slice Aa2vc0v_0 a2vc0v.To.length ca2vc0v_0, .int .u64 a2vc0v.Ends, .bool a2vc0v.Odd, .int .i64 a2vc0v.Holes]) :: xblk b1 39 (enc_api_Pick a1) :: xblk ba2 53 ([.func (.func 20) #[] #[.pointer (some ⟨ba2vc0, 0, none⟩)]]) :: fs) w := hC
           exact ⟨fun _ => does_pure (v := .int .i64 (gt (gt a2vc0v.To t5) a1.Thread)) (by kernel_rfl) rfl hC, fun h => absurd h (by decide)⟩
         | 1, _, _ =>
          rcases st with _ | b98
          ·replace hC : St w0 Z (xblk ba2vc0 25 ([.slice Aa2vc0v_0 a2vc0v.To.length ca2vc0v_0, .int .u64 a2vc0v.Ends, .bool a2vc0v.Odd, .int .i64 a2vc0v.Holes]) :: xblk b1 39 (enc_api_Pick a1) :: xblk ba2 53 ([.func (.func 20) #[] #[.pointer (some ⟨ba2vc0, 0, none⟩)]]) :: fs) w := hC
           exact ⟨fun _ => does_pure (v := .int .u8 (IntKind.u8.wrap (gt (gt a2vc0v.To t5) a1.Thread))) (by kernel_rfl) rfl hC, fun h => absurd h (by decide)⟩
          ·exact absurd hu (Nat.not_le_of_gt (Nat.le_of_ble_eq_true rfl))
         | 2, _, he => exact absurd he (by decide)
         | 3, _, _ =>
          rcases st with _ | b98
          ·exact absurd hr (Nat.not_le_of_gt (Nat.le_of_ble_eq_true rfl))
          ·replace hC : St w0 Z (xrow (some ⟨b98, 0, none⟩) 1 5 1 (([(IntKind.u8.wrap (gt (gt a2vc0v.To t5) a1.Thread))] : List Int).flatMap (encI .u8)) :: xblk ba2vc0 25 ([.slice Aa2vc0v_0 a2vc0v.To.length ca2vc0v_0, .int .u64 a2vc0v.Ends, .bool a2vc0v.Odd, .int .i64 a2vc0v.Holes]) :: xblk b1 39 (enc_api_Pick a1) :: xblk ba2 53 ([.func (.func 20) #[] #[.pointer (some ⟨ba2vc0, 0, none⟩)]]) :: fs) w := hC
           exact ⟨fun _ => does_run (x_bytesStr (src := 55) (dst := 9) (x := (.tmp 52)) (e := 5) (A := (some ⟨b98, 0, none⟩)) (c := 1) (by kernel_rfl) (src_row (hC.row 0 rfl) (by omega) (len_encI .u8)) (by kernel_rfl) (by kernel_rfl) (by kernel_rfl) (by kernel_rfl)) rfl hC, fun h => absurd h (by decide)⟩
         | 4, _, _ =>
          rcases st with _ | b98
          ·replace hC : St w0 Z (xblk ba2vc0 25 ([.slice Aa2vc0v_0 a2vc0v.To.length ca2vc0v_0, .int .u64 a2vc0v.Ends, .bool a2vc0v.Odd, .int .i64 a2vc0v.Holes]) :: xblk b1 39 (enc_api_Pick a1) :: xblk ba2 53 ([.func (.func 20) #[] #[.pointer (some ⟨ba2vc0, 0, none⟩)]]) :: fs) w := hC
           exact ⟨fun _ => does_pure (v := .int .i64 (gt (gt a2vc0v.To t5) a1.Thread)) (by kernel_rfl) rfl hC, fun h => absurd h (by decide)⟩
          ·replace hC : St w0 Z (xrow (some ⟨b98, 0, none⟩) 1 5 1 (([(IntKind.u8.wrap (gt (gt a2vc0v.To t5) a1.Thread))] : List Int).flatMap (encI .u8)) :: xblk ba2vc0 25 ([.slice Aa2vc0v_0 a2vc0v.To.length ca2vc0v_0, .int .u64 a2vc0v.Ends, .bool a2vc0v.Odd, .int .i64 a2vc0v.Holes]) :: xblk b1 39 (enc_api_Pick a1) :: xblk ba2 53 ([.func (.func 20) #[] #[.pointer (some ⟨ba2vc0, 0, none⟩)]]) :: fs) w := hC
           exact ⟨fun _ => does_pure (v := .int .i64 (gt (gt a2vc0v.To t5) a1.Thread)) (by kernel_rfl) rfl hC, fun h => absurd h (by decide)⟩
         | 5, _, _ =>
          rcases st with _ | b98
          ·replace hC : St w0 Z (xblk ba2vc0 25 ([.slice Aa2vc0v_0 a2vc0v.To.length ca2vc0v_0, .int .u64 a2vc0v.Ends, .bool a2vc0v.Odd, .int .i64 a2vc0v.Holes]) :: xblk b1 39 (enc_api_Pick a1) :: xblk ba2 53 ([.func (.func 20) #[] #[.pointer (some ⟨ba2vc0, 0, none⟩)]]) :: fs) w := hC
           exact ⟨fun _ => does_pure (v := .bool (decide ((gt (gt a2vc0v.To t5) a1.Thread) ≥ 0))) (by kernel_rfl) rfl hC, fun h => absurd h (by decide)⟩
          ·replace hC : St w0 Z (xrow (some ⟨b98, 0, none⟩) 1 5 1 (([(IntKind.u8.wrap (gt (gt a2vc0v.To t5) a1.Thread))] : List Int).flatMap (encI .u8)) :: xblk ba2vc0 25 ([.slice Aa2vc0v_0 a2vc0v.To.length ca2vc0v_0, .int .u64 a2vc0v.Ends, .bool a2vc0v.Odd, .int .i64 a2vc0v.Holes]) :: xblk b1 39 (enc_api_Pick a1) :: xblk ba2 53 ([.func (.func 20) #[] #[.pointer (some ⟨ba2vc0, 0, none⟩)]]) :: fs) w := hC
           exact ⟨fun _ => does_pure (v := .bool (decide ((gt (gt a2vc0v.To t5) a1.Thread) ≥ 0))) (by kernel_rfl) rfl hC, fun h => absurd h (by decide)⟩
         | 6, _, _ =>
          rcases st with _ | b98
          ·replace hC : St w0 Z (xblk ba2vc0 25 ([.slice Aa2vc0v_0 a2vc0v.To.length ca2vc0v_0, .int .u64 a2vc0v.Ends, .bool a2vc0v.Odd, .int .i64 a2vc0v.Holes]) :: xblk b1 39 (enc_api_Pick a1) :: xblk ba2 53 ([.func (.func 20) #[] #[.pointer (some ⟨ba2vc0, 0, none⟩)]]) :: fs) w := hC
           exact ⟨fun _ => does_pure (v := .bool (decide ((gt (gt a2vc0v.To t5) a1.Thread) ≥ 0))) (by kernel_rfl) (congrArg Value.bool h100) hC, fun h => absurd h (by decide)⟩
          ·replace hC : St w0 Z (xrow (some ⟨b98, 0, none⟩) 1 5 1 (([(IntKind.u8.wrap (gt (gt a2vc0v.To t5) a1.Thread))] : List Int).flatMap (encI .u8)) :: xblk ba2vc0 25 ([.slice Aa2vc0v_0 a2vc0v.To.length ca2vc0v_0, .int .u64 a2vc0v.Ends, .bool a2vc0v.Odd, .int .i64 a2vc0v.Holes]) :: xblk b1 39 (enc_api_Pick a1) :: xblk ba2 53 ([.func (.func 20) #[] #[.pointer (some ⟨ba2vc0, 0, none⟩)]]) :: fs) w := hC
           exact ⟨fun _ => does_pure (v := .bool (decide ((gt (gt a2vc0v.To t5) a1.Thread) ≥ 0))) (by kernel_rfl) (congrArg Value.bool h100) hC, fun h => absurd h (by decide)⟩
         | 7, _, _ =>
          rcases st with _ | b98
          ·replace hC : St w0 Z (xblk ba2vc0 25 ([.slice Aa2vc0v_0 a2vc0v.To.length ca2vc0v_0, .int .u64 a2vc0v.Ends, .bool a2vc0v.Odd, .int .i64 a2vc0v.Holes]) :: xblk b1 39 (enc_api_Pick a1) :: xblk ba2 53 ([.func (.func 20) #[] #[.pointer (some ⟨ba2vc0, 0, none⟩)]]) :: fs) w := hC
           exact ⟨fun _ => does_pure (v := .int .i64 (gt (gt a2vc0v.To t5) a1.Thread)) (by kernel_rfl) rfl hC, fun h => absurd h (by decide)⟩
          ·replace hC : St w0 Z (xrow (some ⟨b98, 0, none⟩) 1 5 1 (([(IntKind.u8.wrap (gt (gt a2vc0v.To t5) a1.Thread))] : List Int).flatMap (encI .u8)) :: xblk ba2vc0 25 ([.slice Aa2vc0v_0 a2vc0v.To.length ca2vc0v_0, .int .u64 a2vc0v.Ends, .bool a2vc0v.Odd, .int .i64 a2vc0v.Holes]) :: xblk b1 39 (enc_api_Pick a1) :: xblk ba2 53 ([.func (.func 20) #[] #[.pointer (some ⟨ba2vc0, 0, none⟩)]]) :: fs) w := hC
           exact ⟨fun _ => does_pure (v := .int .i64 (gt (gt a2vc0v.To t5) a1.Thread)) (by kernel_rfl) rfl hC, fun h => absurd h (by decide)⟩
         | 8, _, _ =>
          rcases st with _ | b98
          ·replace hC : St w0 Z (xblk ba2vc0 25 ([.slice Aa2vc0v_0 a2vc0v.To.length ca2vc0v_0, .int .u64 a2vc0v.Ends, .bool a2vc0v.Odd, .int .i64 a2vc0v.Holes]) :: xblk b1 39 (enc_api_Pick a1) :: xblk ba2 53 ([.func (.func 20) #[] #[.pointer (some ⟨ba2vc0, 0, none⟩)]]) :: fs) w := hC
           exact ⟨fun _ => does_pure (v := .pointer (some ⟨ba2vc0, 0, none⟩)) (by kernel_rfl) rfl hC, fun h => absurd h (by decide)⟩
          ·replace hC : St w0 Z (xrow (some ⟨b98, 0, none⟩) 1 5 1 (([(IntKind.u8.wrap (gt (gt a2vc0v.To t5) a1.Thread))] : List Int).flatMap (encI .u8)) :: xblk ba2vc0 25 ([.slice Aa2vc0v_0 a2vc0v.To.length ca2vc0v_0, .int .u64 a2vc0v.Ends, .bool a2vc0v.Odd, .int .i64 a2vc0v.Holes]) :: xblk b1 39 (enc_api_Pick a1) :: xblk ba2 53 ([.func (.func 20) #[] #[.pointer (some ⟨ba2vc0, 0, none⟩)]]) :: fs) w := hC
           exact ⟨fun _ => does_pure (v := .pointer (some ⟨ba2vc0, 0, none⟩)) (by kernel_rfl) rfl hC, fun h => absurd h (by decide)⟩
         | 9, _, _ =>
          rcases st with _ | b98
          ·replace hC : St w0 Z (xblk ba2vc0 25 ([.slice Aa2vc0v_0 a2vc0v.To.length ca2vc0v_0, .int .u64 a2vc0v.Ends, .bool a2vc0v.Odd, .int .i64 a2vc0v.Holes]) :: xblk b1 39 (enc_api_Pick a1) :: xblk ba2 53 ([.func (.func 20) #[] #[.pointer (some ⟨ba2vc0, 0, none⟩)]]) :: fs) w := hC
           exact ⟨fun _ => does_run (x_load (t := 22) (x := (.tmp 58)) (p := ⟨ba2vc0, 0, none⟩) (v := .slice Aa2vc0v_0 a2vc0v.To.length ca2vc0v_0) (by kernel_rfl) (loads_at 0 (hC.blk 0 rfl) (by kernel_rfl) (by kernel_rfl)) (by kernel_rfl)) rfl hC, fun h => absurd h (by decide)⟩
          ·replace hC : St w0 Z (xrow (some ⟨b98, 0, none⟩) 1 5 1 (([(IntKind.u8.wrap (gt (gt a2vc0v.To t5) a1.Thread))] : List Int).flatMap (encI .u8)) :: xblk ba2vc0 25 ([.slice Aa2vc0v_0 a2vc0v.To.length ca2vc0v_0, .int .u64 a2vc0v.Ends, .bool a2vc0v.Odd, .int .i64 a2vc0v.Holes]) :: xblk b1 39 (enc_api_Pick a1) :: xblk ba2 53 ([.func (.func 20) #[] #[.pointer (some ⟨ba2vc0, 0, none⟩)]]) :: fs) w := hC
           exact ⟨fun _ => does_run (x_load (t := 22) (x := (.tmp 58)) (p := ⟨ba2vc0, 0, none⟩) (v := .slice Aa2vc0v_0 a2vc0v.To.length ca2vc0v_0) (by kernel_rfl) (loads_at 0 (hC.blk 1 rfl) (by kernel_rfl) (by kernel_rfl)) (by kernel_rfl)) rfl hC, fun h => absurd h (by decide)⟩
         | 10, _, _ =>
          rcases st with _ | b98
          ·replace hC : St w0 Z (xblk ba2vc0 25 ([.slice Aa2vc0v_0 a2vc0v.To.length ca2vc0v_0, .int .u64 a2vc0v.Ends, .bool a2vc0v.Odd, .int .i64 a2vc0v.Holes]) :: xblk b1 39 (enc_api_Pick a1) :: xblk ba2 53 ([.func (.func 20) #[] #[.pointer (some ⟨ba2vc0, 0, none⟩)]]) :: fs) w := hC
           exact ⟨fun _ => does_pure (v := .int .i64 (a2vc0v.To.length : Int)) (by kernel_rfl) rfl hC, fun h => absurd h (by decide)⟩
          ·replace hC : St w0 Z (xrow (some ⟨b98, 0, none⟩) 1 5 1 (([(IntKind.u8.wrap (gt (gt a2vc0v.To t5) a1.Thread))] : List Int).flatMap (encI .u8)) :: xblk ba2vc0 25 ([.slice Aa2vc0v_0 a2vc0v.To.length ca2vc0v_0, .int .u64 a2vc0v.Ends, .bool a2vc0v.Odd, .int .i64 a2vc0v.Holes]) :: xblk b1 39 (enc_api_Pick a1) :: xblk ba2 53 ([.func (.func 20) #[] #[.pointer (some ⟨ba2vc0, 0, none⟩)]]) :: fs) w := hC
           exact ⟨fun _ => does_pure (v := .int .i64 (a2vc0v.To.length : Int)) (by kernel_rfl) rfl hC, fun h => absurd h (by decide)⟩
         | 11, _, _ =>
          rcases st with _ | b98
          ·replace hC : St w0 Z (xblk ba2vc0 25 ([.slice Aa2vc0v_0 a2vc0v.To.length ca2vc0v_0, .int .u64 a2vc0v.Ends, .bool a2vc0v.Odd, .int .i64 a2vc0v.Holes]) :: xblk b1 39 (enc_api_Pick a1) :: xblk ba2 53 ([.func (.func 20) #[] #[.pointer (some ⟨ba2vc0, 0, none⟩)]]) :: fs) w := hC
           exact ⟨fun _ => does_pure (v := .bool (decide ((gt (gt a2vc0v.To t5) a1.Thread) < (a2vc0v.To.length : Int)))) (by kernel_rfl) rfl hC, fun h => absurd h (by decide)⟩
          ·replace hC : St w0 Z (xrow (some ⟨b98, 0, none⟩) 1 5 1 (([(IntKind.u8.wrap (gt (gt a2vc0v.To t5) a1.Thread))] : List Int).flatMap (encI .u8)) :: xblk ba2vc0 25 ([.slice Aa2vc0v_0 a2vc0v.To.length ca2vc0v_0, .int .u64 a2vc0v.Ends, .bool a2vc0v.Odd, .int .i64 a2vc0v.Holes]) :: xblk b1 39 (enc_api_Pick a1) :: xblk ba2 53 ([.func (.func 20) #[] #[.pointer (some ⟨ba2vc0, 0, none⟩)]]) :: fs) w := hC
           exact ⟨fun _ => does_pure (v := .bool (decide ((gt (gt a2vc0v.To t5) a1.Thread) < (a2vc0v.To.length : Int)))) (by kernel_rfl) rfl hC, fun h => absurd h (by decide)⟩
         | 12, _, _ =>
          rcases st with _ | b98
          ·replace hC : St w0 Z (xblk ba2vc0 25 ([.slice Aa2vc0v_0 a2vc0v.To.length ca2vc0v_0, .int .u64 a2vc0v.Ends, .bool a2vc0v.Odd, .int .i64 a2vc0v.Holes]) :: xblk b1 39 (enc_api_Pick a1) :: xblk ba2 53 ([.func (.func 20) #[] #[.pointer (some ⟨ba2vc0, 0, none⟩)]]) :: fs) w := hC
           exact ⟨fun _ => does_pure (v := .bool (decide ((gt (gt a2vc0v.To t5) a1.Thread) < (a2vc0v.To.length : Int)))) (by kernel_rfl) rfl hC, fun h => absurd h (by decide)⟩
          ·replace hC : St w0 Z (xrow (some ⟨b98, 0, none⟩) 1 5 1 (([(IntKind.u8.wrap (gt (gt a2vc0v.To t5) a1.Thread))] : List Int).flatMap (encI .u8)) :: xblk ba2vc0 25 ([.slice Aa2vc0v_0 a2vc0v.To.length ca2vc0v_0, .int .u64 a2vc0v.Ends, .bool a2vc0v.Odd, .int .i64 a2vc0v.Holes]) :: xblk b1 39 (enc_api_Pick a1) :: xblk ba2 53 ([.func (.func 20) #[] #[.pointer (some ⟨ba2vc0, 0, none⟩)]]) :: fs) w := hC
           exact ⟨fun _ => does_pure (v := .bool (decide ((gt (gt a2vc0v.To t5) a1.Thread) < (a2vc0v.To.length : Int)))) (by kernel_rfl) rfl hC, fun h => absurd h (by decide)⟩
         | 13, _, _ =>
          rcases st with _ | b98
          ·exact absurd hr (Nat.not_le_of_gt (Nat.le_of_ble_eq_true rfl))
          ·replace hC : St w0 Z (xrow (some ⟨b98, 0, none⟩) 1 5 1 (([(IntKind.u8.wrap (gt (gt a2vc0v.To t5) a1.Thread))] : List Int).flatMap (encI .u8)) :: xblk ba2vc0 25 ([.slice Aa2vc0v_0 a2vc0v.To.length ca2vc0v_0, .int .u64 a2vc0v.Ends, .bool a2vc0v.Odd, .int .i64 a2vc0v.Holes]) :: xblk b1 39 (enc_api_Pick a1) :: xblk ba2 53 ([.func (.func 20) #[] #[.pointer (some ⟨ba2vc0, 0, none⟩)]]) :: fs) w := hC
           exact ⟨fun _ => does_pure (v := .string (ofBytes ([(IntKind.u8.wrap (gt (gt a2vc0v.To t5) a1.Thread))] : List Int))) (by kernel_rfl) rfl hC, fun h => absurd h (by decide)⟩
         | 14, _, _ =>
          rcases st with _ | b98
          ·exact absurd hr (Nat.not_le_of_gt (Nat.le_of_ble_eq_true rfl))
          ·replace hC : St w0 Z (xrow (some ⟨b98, 0, none⟩) 1 5 1 (([(IntKind.u8.wrap (gt (gt a2vc0v.To t5) a1.Thread))] : List Int).flatMap (encI .u8)) :: xblk ba2vc0 25 ([.slice Aa2vc0v_0 a2vc0v.To.length ca2vc0v_0, .int .u64 a2vc0v.Ends, .bool a2vc0v.Odd, .int .i64 a2vc0v.Holes]) :: xblk b1 39 (enc_api_Pick a1) :: xblk ba2 53 ([.func (.func 20) #[] #[.pointer (some ⟨ba2vc0, 0, none⟩)]]) :: fs) w := hC
           exact ⟨fun _ => does_pure (v := .bool (decide ((gt (gt a2vc0v.To t5) a1.Thread) < (a2vc0v.To.length : Int)))) (by kernel_rfl) rfl hC, fun h => absurd h (by decide)⟩
         | i + 15, hi, _ => exact absurd hi (by omega)
        ·intro k hk st w hC hr
         match k, hk with
         | 0, _ =>
          rcases st with _ | b98
          ·replace hC : St w0 Z (xblk ba2vc0 25 ([.slice Aa2vc0v_0 a2vc0v.To.length ca2vc0v_0, .int .u64 a2vc0v.Ends, .bool a2vc0v.Odd, .int .i64 a2vc0v.Holes]) :: xblk b1 39 (enc_api_Pick a1) :: xblk ba2 53 ([.func (.func 20) #[] #[.pointer (some ⟨ba2vc0, 0, none⟩)]]) :: fs) w := hC
           refine does_lit (t := 55) (e := 5) (sz := 1) (n := 1) (parts := #[(0, (.tmp 51))]) (vs := [(0, .int .u8 (IntKind.u8.wrap (gt (gt a2vc0v.To t5) a1.Thread)))]) (z := zeroOf Try.prog 5) (cs' := ([(IntKind.u8.wrap (gt (gt a2vc0v.To t5) a1.Thread))] : List Int).flatMap (encI .u8)) hC (by kernel_rfl) (by kernel_rfl) (by kernel_rfl) (by kernel_rfl) (by decide) (by decide) (by kernel_rfl) rfl (Parts.cons (c := [.int .u8 (IntKind.u8.wrap (gt (gt a2vc0v.To t5) a1.Thread))]) (by kernel_rfl) rfl Parts.nil) rfl ?_
           intro b98 w2 h2
           refine ⟨some b98, rfl, ?_, .inr rfl, h2⟩
           intro j hj
           match j, hj with
           | 0, _ => exact rfl
           | 1, _ => exact rfl
           | 2, hj => exact absurd hj (by decide)
           | 3, hj => exact absurd hj (by decide)
           | 4, _ => exact rfl
           | 5, _ => exact rfl
           | 6, _ => exact rfl
           | 7, _ => exact rfl
           | 8, _ => exact rfl
           | 9, _ => exact rfl
           | 10, _ => exact rfl
           | 11, _ => exact rfl
           | 12, _ => exact rfl
           | 13, hj => exact absurd hj (by decide)
           | 14, hj => exact absurd hj (by decide)
           | j + 15, _ => exact rfl
          ·exact absurd hr (Nat.ne_of_beq_eq_false rfl)
         | k + 1, hk => exact absurd hk (by simp)
        intro st105 w102 hS103 hr104
        rcases st105 with _ | b98
        ·exact absurd hr104 (Nat.not_le_of_gt (Nat.le_of_ble_eq_true rfl))
        replace hS103 : St w0 Z (xrow (some ⟨b98, 0, none⟩) 1 5 1 (([(IntKind.u8.wrap (gt (gt a2vc0v.To t5) a1.Thread))] : List Int).flatMap (encI .u8)) :: xblk ba2vc0 25 ([.slice Aa2vc0v_0 a2vc0v.To.length ca2vc0v_0, .int .u64 a2vc0v.Ends, .bool a2vc0v.Odd, .int .i64 a2vc0v.Holes]) :: xblk b1 39 (enc_api_Pick a1) :: xblk ba2 53 ([.func (.func 20) #[] #[.pointer (some ⟨ba2vc0, 0, none⟩)]]) :: fs) w102 := hS103
        have hS106 := hS103.drop
        have hS107 := hS106.pick1
        have hS108 := hS107.drop
        have hS109 := hS108.pick1
        refine runs_ret (fn := Try.f22) (v := .tuple #[.string (ofBytes ([(IntKind.u8.wrap (gt (gt a2vc0v.To t5) a1.Thread))] : List Int)), .bool (decide ((gt (gt a2vc0v.To t5) a1.Thread) < (a2vc0v.To.length : Int)))]) Try.func22 (by kernel_rfl) ?_
        have hr110 := (Option.some.inj hp101)
        cases hr110
        exact hR _ _ ⟨rfl, hS109⟩
       ·skip
        have hp111 := ite_f hp91 h100
        refine r_drawnH (S := Option Nat) (rank := (fun st => match st with | none => 0 | some b98 => 1)) (C := (fun st w' => match st with | none => St w0 Z (xblk ba2vc0 25 ([.slice Aa2vc0v_0 a2vc0v.To.length ca2vc0v_0, .int .u64 a2vc0v.Ends, .bool a2vc0v.Odd, .int .i64 a2vc0v.Holes]) :: xblk b1 39 (enc_api_Pick a1) :: xblk ba2 53 ([.func (.func 20) #[] #[.pointer (some ⟨ba2vc0, 0, none⟩)]]) :: fs) w' | some b98 => St w0 Z (xrow (some ⟨b98, 0, none⟩) 1 5 1 (([(IntKind.u8.wrap (gt (gt a2vc0v.To t5) a1.Thread))] : List Int).flatMap (encI .u8)) :: xblk ba2vc0 25 ([.slice Aa2vc0v_0 a2vc0v.To.length ca2vc0v_0, .int .u64 a2vc0v.Ends, .bool a2vc0v.Odd, .int .i64 a2vc0v.Holes]) :: xblk b1 39 (enc_api_Pick a1) :: xblk ba2 53 ([.func (.func 20) #[] #[.pointer (some ⟨ba2vc0, 0, none⟩)]]) :: fs) w')) (v := (fun st => match st with | none => [.int .i64 (gt (gt a2vc0v.To t5) a1.Thread), .int .u8 (IntKind.u8.wrap (gt (gt a2vc0v.To t5) a1.Thread)), undef, undef, .int .i64 (gt (gt a2vc0v.To t5) a1.Thread), .bool (decide ((gt (gt a2vc0v.To t5) a1.Thread) ≥ 0)), .bool false, undef, undef, undef, undef, undef, .bool false, undef, undef] | some b98 => [.int .i64 (gt (gt a2vc0v.To t5) a1.Thread), .int .u8 (IntKind.u8.wrap (gt (gt a2vc0v.To t5) a1.Thread)), .slice (some ⟨b98, 0, none⟩) ([(IntKind.u8.wrap (gt (gt a2vc0v.To t5) a1.Thread))] : List Int).length 1, .string (ofBytes ([(IntKind.u8.wrap (gt (gt a2vc0v.To t5) a1.Thread))] : List Int)), .int .i64 (gt (gt a2vc0v.To t5) a1.Thread), .bool (decide ((gt (gt a2vc0v.To t5) a1.Thread) ≥ 0)), .bool false, undef, undef, undef, undef, undef, .bool false, .string (ofBytes ([(IntKind.u8.wrap (gt (gt a2vc0v.To t5) a1.Thread))] : List Int)), .bool false])) (c := (cd22 [1, 1, 1, 1, 0])) (id := 5) none 0 15 [2] [0, 0, 0, 1, 0, 0, 0, 0, 0, 0, 0, 0, 0, 1, 1] [1, 0, 1, 1, 1, 1, 1, 1, 1, 1, 1, 1, 1, 1, 1] [] [true, true, true, true, true, true, true, false, false, false, false, false, true, true, true] (by kernel_rfl) (by kernel_rfl) (by kernel_rfl) (by kernel_rfl) (by kernel_rfl) (by kernel_rfl) (by kernel_rfl) (by kernel_rfl) (by kernel_rfl) rfl hS97.drew ?_ ?_ (fun k hk => match k, hk with | 0, _ => rfl | k + 1, hk => absurd hk (by simp)) ?_ ?_ ?_
        ·intro st w hC
         rcases st with _ | b98
         ·exact Nat.le_of_ble_eq_true rfl
         ·exact Nat.le_of_ble_eq_true rfl
        ·intro i hi st w hC hr
         match i, hi with
         | 0, _ => (show _ = _; kernel_rfl)
         | 1, _ => (show _ = _; kernel_rfl)
         | 2, _ => (show _ = _; kernel_rfl)
         | 3, _ => (show _ = _; kernel_rfl)
         | 4, _ => (show _ = _; kernel_rfl)
         | 5, _ => (show _ = _; kernel_rfl)
         | 6, _ => (show _ = _; kernel_rfl)
         | 7, _ =>
          rcases st with _ | b98
          ·(show _ = _; kernel_rfl)
          ·(show _ = _; kernel_rfl)
         | 8, _ =>
          rcases st with _ | b98
          ·(show _ = _; kernel_rfl)
          ·(show _ = _; kernel_rfl)
         | 9, _ =>
          rcases st with _ | b98
          ·(show _ = _; kernel_rfl)
          ·(show _ = _; kernel_rfl)
         | 10, _ =>
          rcases st with _ | b98
          ·(show _ = _; kernel_rfl)
          ·(show _ = _; kernel_rfl)
         | 11, _ =>
          rcases st with _ | b98
          ·(show _ = _; kernel_rfl)
          ·(show _ = _; kernel_rfl)
         | 12, _ => (show _ = _; kernel_rfl)
         | 13, _ => (show _ = _; kernel_rfl)
         | 14, _ => (show _ = _; kernel_rfl)
         | i + 15, hi => exact absurd hi (by omega)
        ·intro i hi he st w hC hr hu
         match i, hi, he with
         | 0, _, _ =>
          rcases st with _ | b98
          ·replace hC : St w0 Z (xblk ba2vc0 25 ([.slice Aa2vc0v_0 a2vc0v.To.length ca2vc0v_0, .int .u64 a2vc0v.Ends, .bool a2vc0v.Odd, .int .i64 a2vc0v.Holes]) :: xblk b1 39 (enc_api_Pick a1) :: xblk ba2 53 ([.func (.func 20) #[] #[.pointer (some ⟨ba2vc0, 0, none⟩)]]) :: fs) w := hC
           exact ⟨fun _ => does_pure (v := .int .i64 (gt (gt a2vc0v.To t5) a1.Thread)) (by kernel_rfl) rfl hC, fun h => absurd h (by decide)⟩
          ·replace hC : St w0 Z (xrow (some ⟨b98, 0, none⟩) 1 5 1 (([(IntKind.u8.wrap (gt (gt a2vc0v.To t5) a1.Thread))] : List Int).flatMap (encI .u8)) :: xblk ba2vc0 25 ([.slice Aa2vc0v_0 a2vc0v.To.length ca2vc0v_0, .int .u64 a2vc0v.Ends, .bool a2vc0v.Odd, .int .i64 a2vc0v.Holes]) :: xblk b1 39 (enc_api_Pick a1) :: xblk ba2 53 ([.func (.func 20) #[] #[.pointer (some ⟨ba2vc0, 0, none⟩)]]) :: fs) w := hC
           exact ⟨fun _ => does_pure (v := .int .i64 (gt (gt a2vc0v.To t5) a1.Thread)) (by kernel_rfl) rfl hC, fun h => absurd h (by decide)⟩
         | 1, _, _ =>
          rcases st with _ | b98
          ·replace hC : St w0 Z (xblk ba2vc0 25 ([.slice Aa2vc0v_0 a2vc0v.To.length ca2vc0v_0, .int .u64 a2vc0v.Ends, .bool a2vc0v.Odd, .int .i64 a2vc0v.Holes]) :: xblk b1 39 (enc_api_Pick a1) :: xblk ba2 53 ([.func (.func 20) #[] #[.pointer (some ⟨ba2vc0, 0, none⟩)]]) :: fs) w := hC
           exact ⟨fun _ => does_pure (v := .int .u8 (IntKind.u8.wrap (gt (gt a2vc0v.To t5) a1.Thread))) (by kernel_rfl) rfl hC, fun h => absurd h (by decide)⟩
          ·exact absurd hu (Nat.not_le_of_gt (Nat.le_of_ble_eq_true rfl))
         | 2, _, he => exact absurd he (by decide)
         | 3, _, _ =>
          rcases st with _ | b98
          ·exact absurd hr (Nat.not_le_of_gt (Nat.le_of_ble_eq_true rfl))
          ·replace hC : St w0 Z (xrow (some ⟨b98, 0, none⟩) 1 5 1 (([(IntKind.u8.wrap (gt (gt a2vc0v.To t5) a1.Thread))] : List Int).flatMap (encI .u8)) :: xblk ba2vc0 25 ([.slice Aa2vc0v_0 a2vc0v.To.length ca2vc0v_0, .int .u64 a2vc0v.Ends, .bool a2vc0v.Odd, .int .i64 a2vc0v.Holes]) :: xblk b1 39 (enc_api_Pick a1) :: xblk ba2 53 ([.func (.func 20) #[] #[.pointer (some ⟨ba2vc0, 0, none⟩)]]) :: fs) w := hC
           exact ⟨fun _ => does_run (x_bytesStr (src := 55) (dst := 9) (x := (.tmp 52)) (e := 5) (A := (some ⟨b98, 0, none⟩)) (c := 1) (by kernel_rfl) (src_row (hC.row 0 rfl) (by omega) (len_encI .u8)) (by kernel_rfl) (by kernel_rfl) (by kernel_rfl) (by kernel_rfl)) rfl hC, fun h => absurd h (by decide)⟩
         | 4, _, _ =>
          rcases st with _ | b98
          ·replace hC : St w0 Z (xblk ba2vc0 25 ([.slice Aa2vc0v_0 a2vc0v.To.length ca2vc0v_0, .int .u64 a2vc0v.Ends, .bool a2vc0v.Odd, .int .i64 a2vc0v.Holes]) :: xblk b1 39 (enc_api_Pick a1) :: xblk ba2 53 ([.func (.func 20) #[] #[.pointer (some ⟨ba2vc0, 0, none⟩)]]) :: fs) w := hC
           exact ⟨fun _ => does_pure (v := .int .i64 (gt (gt a2vc0v.To t5) a1.Thread)) (by kernel_rfl) rfl hC, fun h => absurd h (by decide)⟩
          ·replace hC : St w0 Z (xrow (some ⟨b98, 0, none⟩) 1 5 1 (([(IntKind.u8.wrap (gt (gt a2vc0v.To t5) a1.Thread))] : List Int).flatMap (encI .u8)) :: xblk ba2vc0 25 ([.slice Aa2vc0v_0 a2vc0v.To.length ca2vc0v_0, .int .u64 a2vc0v.Ends, .bool a2vc0v.Odd, .int .i64 a2vc0v.Holes]) :: xblk b1 39 (enc_api_Pick a1) :: xblk ba2 53 ([.func (.func 20) #[] #[.pointer (some ⟨ba2vc0, 0, none⟩)]]) :: fs) w := hC
           exact ⟨fun _ => does_pure (v := .int .i64 (gt (gt a2vc0v.To t5) a1.Thread)) (by kernel_rfl) rfl hC, fun h => absurd h (by decide)⟩
         | 5, _, _ =>
          rcases st with _ | b98
          ·replace hC : St w0 Z (xblk ba2vc0 25 ([.slice Aa2vc0v_0 a2vc0v.To.length ca2vc0v_0, .int .u64 a2vc0v.Ends, .bool a2vc0v.Odd, .int .i64 a2vc0v.Holes]) :: xblk b1 39 (enc_api_Pick a1) :: xblk ba2 53 ([.func (.func 20) #[] #[.pointer (some ⟨ba2vc0, 0, none⟩)]]) :: fs) w := hC
           exact ⟨fun _ => does_pure (v := .bool (decide ((gt (gt a2vc0v.To t5) a1.Thread) ≥ 0))) (by kernel_rfl) rfl hC, fun h => absurd h (by decide)⟩
          ·replace hC : St w0 Z (xrow (some ⟨b98, 0, none⟩) 1 5 1 (([(IntKind.u8.wrap (gt (gt a2vc0v.To t5) a1.Thread))] : List Int).flatMap (encI .u8)) :: xblk ba2vc0 25 ([.slice Aa2vc0v_0 a2vc0v.To.length ca2vc0v_0, .int .u64 a2vc0v.Ends, .bool a2vc0v.Odd, .int .i64 a2vc0v.Holes]) :: xblk b1 39 (enc_api_Pick a1) :: xblk ba2 53 ([.func (.func 20) #[] #[.pointer (some ⟨ba2vc0, 0, none⟩)]]) :: fs) w := hC
           exact ⟨fun _ => does_pure (v := .bool (decide ((gt (gt a2vc0v.To t5) a1.Thread) ≥ 0))) (by kernel_rfl) rfl hC, fun h => absurd h (by decide)⟩
         | 6, _, _ =>
          rcases st with _ | b98
          ·replace hC : St w0 Z (xblk ba2vc0 25 ([.slice Aa2vc0v_0 a2vc0v.To.length ca2vc0v_0, .int .u64 a2vc0v.Ends, .bool a2vc0v.Odd, .int .i64 a2vc0v.Holes]) :: xblk b1 39 (enc_api_Pick a1) :: xblk ba2 53 ([.func (.func 20) #[] #[.pointer (some ⟨ba2vc0, 0, none⟩)]]) :: fs) w := hC
           exact ⟨fun _ => does_pure (v := .bool (decide ((gt (gt a2vc0v.To t5) a1.Thread) ≥ 0))) (by kernel_rfl) (congrArg Value.bool h100) hC, fun h => absurd h (by decide)⟩
          ·replace hC : St w0 Z (xrow (some ⟨b98, 0, none⟩) 1 5 1 (([(IntKind.u8.wrap (gt (gt a2vc0v.To t5) a1.Thread))] : List Int).flatMap (encI .u8)) :: xblk ba2vc0 25 ([.slice Aa2vc0v_0 a2vc0v.To.length ca2vc0v_0, .int .u64 a2vc0v.Ends, .bool a2vc0v.Odd, .int .i64 a2vc0v.Holes]) :: xblk b1 39 (enc_api_Pick a1) :: xblk ba2 53 ([.func (.func 20) #[] #[.pointer (some ⟨ba2vc0, 0, none⟩)]]) :: fs) w := hC
           exact ⟨fun _ => does_pure (v := .bool (decide ((gt (gt a2vc0v.To t5) a1.Thread) ≥ 0))) (by kernel_rfl) (congrArg Value.bool h100) hC, fun h => absurd h (by decide)⟩
         | 7, _, _ => exact ⟨fun h => absurd h (by decide), fun _ => by rcases st with _ | b98 <;> rfl⟩
         | 8, _, _ => exact ⟨fun h => absurd h (by decide), fun _ => by rcases st with _ | b98 <;> rfl⟩
         | 9, _, _ => exact ⟨fun h => absurd h (by decide), fun _ => by rcases st with _ | b98 <;> rfl⟩
         | 10, _, _ => exact ⟨fun h => absurd h (by decide), fun _ => by rcases st with _ | b98 <;> rfl⟩
         | 11, _, _ => exact ⟨fun h => absurd h (by decide), fun _ => by rcases st with _ | b98 <;> rfl⟩
         | 12, _, _ =>
          rcases st with _ | b98
          ·replace hC : St w0 Z (xblk ba2vc0 25 ([.slice Aa2vc0v_0 a2vc0v.To.length ca2vc0v_0, .int .u64 a2vc0v.Ends, .bool a2vc0v.Odd, .int .i64 a2vc0v.Holes]) :: xblk b1 39 (enc_api_Pick a1) :: xblk ba2 53 ([.func (.func 20) #[] #[.pointer (some ⟨ba2vc0, 0, none⟩)]]) :: fs) w := hC
           exact ⟨fun _ => does_pure (v := .bool false) (by kernel_rfl) rfl hC, fun h => absurd h (by decide)⟩
          ·replace hC : St w0 Z (xrow (some ⟨b98, 0, none⟩) 1 5 1 (([(IntKind.u8.wrap (gt (gt a2vc0v.To t5) a1.Thread))] : List Int).flatMap (encI .u8)) :: xblk ba2vc0 25 ([.slice Aa2vc0v_0 a2vc0v.To.length ca2vc0v_0, .int .u64 a2vc0v.Ends, .bool a2vc0v.Odd, .int .i64 a2vc0v.Holes]) :: xblk b1 39 (enc_api_Pick a1) :: xblk ba2 53 ([.func (.func 20) #[] #[.pointer (some ⟨ba2vc0, 0, none⟩)]]) :: fs) w := hC
           exact ⟨fun _ => does_pure (v := .bool false) (by kernel_rfl) rfl hC, fun h => absurd h (by decide)⟩
         | 13, _, _ =>
          rcases st with _ | b98
          ·exact absurd hr (Nat.not_le_of_gt (Nat.le_of_ble_eq_true rfl))
          ·replace hC : St w0 Z (xrow (some ⟨b98, 0, none⟩) 1 5 1 (([(IntKind.u8.wrap (gt (gt a2vc0v.To t5) a1.Thread))] : List Int).flatMap (encI .u8)) :: xblk ba2vc0 25 ([.slice Aa2vc0v_0 a2vc0v.To.length ca2vc0v_0, .int .u64 a2vc0v.Ends, .bool a2vc0v.Odd, .int .i64 a2vc0v.Holes]) :: xblk b1 39 (enc_api_Pick a1) :: xblk ba2 53 ([.func (.func 20) #[] #[.pointer (some ⟨ba2vc0, 0, none⟩)]]) :: fs) w := hC
           exact ⟨fun _ => does_pure (v := .string (ofBytes ([(IntKind.u8.wrap (gt (gt a2vc0v.To t5) a1.Thread))] : List Int))) (by kernel_rfl) rfl hC, fun h => absurd h (by decide)⟩
         | 14, _, _ =>
          rcases st with _ | b98
          ·exact absurd hr (Nat.not_le_of_gt (Nat.le_of_ble_eq_true rfl))
          ·replace hC : St w0 Z (xrow (some ⟨b98, 0, none⟩) 1 5 1 (([(IntKind.u8.wrap (gt (gt a2vc0v.To t5) a1.Thread))] : List Int).flatMap (encI .u8)) :: xblk ba2vc0 25 ([.slice Aa2vc0v_0 a2vc0v.To.length ca2vc0v_0, .int .u64 a2vc0v.Ends, .bool a2vc0v.Odd, .int .i64 a2vc0v.Holes]) :: xblk b1 39 (enc_api_Pick a1) :: xblk ba2 53 ([.func (.func 20) #[] #[.pointer (some ⟨ba2vc0, 0, none⟩)]]) :: fs) w := hC
           exact ⟨fun _ => does_pure (v := .bool false) (by kernel_rfl) rfl hC, fun h => absurd h (by decide)⟩
         | i + 15, hi, _ => exact absurd hi (by omega)
        ·intro k hk st w hC hr
         match k, hk with
         | 0, _ =>
          rcases st with _ | b98
          ·replace hC : St w0 Z (xblk ba2vc0 25 ([.slice Aa2vc0v_0 a2vc0v.To.length ca2vc0v_0, .int .u64 a2vc0v.Ends, .bool a2vc0v.Odd, .int .i64 a2vc0v.Holes]) :: xblk b1 39 (enc_api_Pick a1) :: xblk ba2 53 ([.func (.func 20) #[] #[.pointer (some ⟨ba2vc0, 0, none⟩)]]) :: fs) w := hC
           refine does_lit (t := 55) (e := 5) (sz := 1) (n := 1) (parts := #[(0, (.tmp 51))]) (vs := [(0, .int .u8 (IntKind.u8.wrap (gt (gt a2vc0v.To t5) a1.Thread)))]) (z := zeroOf Try.prog 5) (cs' := ([(IntKind.u8.wrap (gt (gt a2vc0v.To t5) a1.Thread))] : List Int).flatMap (encI .u8)) hC (by kernel_rfl) (by kernel_rfl) (by kernel_rfl) (by kernel_rfl) (by decide) (by decide) (by kernel_rfl) rfl (Parts.cons (c := [.int .u8 (IntKind.u8.wrap (gt (gt a2vc0v.To t5) a1.Thread))]) (by kernel_rfl) rfl Parts.nil) rfl ?_
           intro b98 w2 h2
           refine ⟨some b98, rfl, ?_, .inr rfl, h2⟩
           intro j hj
           match j, hj with
           | 0, _ => exact rfl
           | 1, _ => exact rfl
           | 2, hj => exact absurd hj (by decide)
           | 3, hj => exact absurd hj (by decide)
           | 4, _ => exact rfl
           | 5, _ => exact rfl
           | 6, _ => exact rfl
           | 7, _ => exact rfl
           | 8, _ => exact rfl
           | 9, _ => exact rfl
           | 10, _ => exact rfl
           | 11, _ => exact rfl
           | 12, _ => exact rfl
           | 13, hj => exact absurd hj (by decide)
           | 14, hj => exact absurd hj (by decide)
           | j + 15, _ => exact rfl
          ·exact absurd hr (Nat.ne_of_beq_eq_false rfl)
         | k + 1, hk => exact absurd hk (by simp)
        intro st115 w112 hS113 hr114
        rcases st115 with _ | b98
        ·exact absurd hr114 (Nat.not_le_of_gt (Nat.le_of_ble_eq_true rfl))
        replace hS113 : St w0 Z (xrow (some ⟨b98, 0, none⟩) 1 5 1 (([(IntKind.u8.wrap (gt (gt a2vc0v.To t5) a1.Thread))] : List Int).flatMap (encI .u8)) :: xblk ba2vc0 25 ([.slice Aa2vc0v_0 a2vc0v.To.length ca2vc0v_0, .int .u64 a2vc0v.Ends, .bool a2vc0v.Odd, .int .i64 a2vc0v.Holes]) :: xblk b1 39 (enc_api_Pick a1) :: xblk ba2 53 ([.func (.func 20) #[] #[.pointer (some ⟨ba2vc0, 0, none⟩)]]) :: fs) w112 := hS113
        have hS116 := hS113.drop
        have hS117 := hS116.pick1
        have hS118 := hS117.drop
        have hS119 := hS118.pick1
        refine runs_ret (fn := Try.f22) (v := .tuple #[.string (ofBytes ([(IntKind.u8.wrap (gt (gt a2vc0v.To t5) a1.Thread))] : List Int)), .bool false]) Try.func22 (by kernel_rfl) ?_
        have hr120 := (Option.some.inj hp111)
        cases hr120
        exact hR _ _ ⟨rfl, hS119⟩

noncomputable def cd24 (p : List Nat) : Code := sub (bodyOf Try.f24) p
def script_step.f (a0_0 : ByteArray) (a0_1 : Bool) (a0_1c0vc0v : weirlaw15_Graph) (a0_2 : Bool) (a0_3 : Bool) (a1 : ByteArray) (a2 : api_Pick) : Option (ByteArray × Bool) :=
  (if a0_2 = true then (weirlaw15_Graph__Machine_3.f a1 a2 (⟨a0_1c0vc0v.To, a0_1c0vc0v.Ends, a0_1c0vc0v.Odd, a0_1c0vc0v.Holes⟩ : weirlaw15_Graph) >>= (fun (t14, t15) => some ((t14, t15)))) else some (((⟨#[]⟩ : ByteArray), false)))
set_option maxHeartbeats 16000000 in
theorem script_step.ok (a0_0 : ByteArray) (a0_1 : Bool) (a0_1c0vc0v : weirlaw15_Graph) (a0_2 : Bool) (a0_3 : Bool) (a1 : ByteArray) (a2 : api_Pick) (ba0_1c0 : Nat) (ba0_1c0vc0 : Nat) (Aa0_1c0vc0v_0 : Option Addr) (ca0_1c0vc0v_0 : Nat) {w0 : World} {Z : Zm} {fs : List XObj} {w : World} (hS0 : St w0 Z (xblk ba0_1c0 53 ([.func (.func 20) #[] #[.pointer (some ⟨ba0_1c0vc0, 0, none⟩)]]) :: xblk ba0_1c0vc0 25 ([.slice Aa0_1c0vc0v_0 a0_1c0vc0v.To.length ca0_1c0vc0v_0, .int .u64 a0_1c0vc0v.Ends, .bool a0_1c0vc0v.Odd, .int .i64 a0_1c0vc0v.Holes]) :: fs) w) (ha0_1c0vc0v_0 : SlZ (repL (flat (encI .i64)) 1) 1 Z Aa0_1c0vc0v_0 ca0_1c0vc0v_0 a0_1c0vc0v.To) {q0 : ByteArray} {q1 : Bool} (hp0 : script_step.f a0_0 a0_1 a0_1c0vc0v a0_2 a0_3 a1 a2 = some (q0, q1)) :
    Calls Try.prog 24 #[.agg #[.string a0_0, cond a0_1 (.func (.func 21) #[] #[.pointer (some ⟨ba0_1c0, 0, none⟩), .pointer (some ⟨ba0_1c0vc0, 0, none⟩)]) .nilFunc, cond a0_2 (.func (.func 22) #[] #[.pointer (some ⟨ba0_1c0, 0, none⟩), .pointer (some ⟨ba0_1c0vc0, 0, none⟩)]) .nilFunc, cond a0_3 (.func (.func 23) #[] #[.pointer (some ⟨ba0_1c0, 0, none⟩), .pointer (some ⟨ba0_1c0vc0, 0, none⟩)]) .nilFunc], .string a1, .agg (enc_api_Pick a2).toArray] w (fun e w' => e = .returned (.tuple #[.string q0, .bool q1]) ∧ St w0 Z (xblk ba0_1c0 53 ([.func (.func 20) #[] #[.pointer (some ⟨ba0_1c0vc0, 0, none⟩)]]) :: xblk ba0_1c0vc0 25 ([.slice Aa0_1c0vc0v_0 a0_1c0vc0v.To.length ca0_1c0vc0v_0, .int .u64 a0_1c0vc0v.Ends, .bool a0_1c0vc0v.Odd, .int .i64 a0_1c0vc0v.Holes]) :: fs) w') := by
  refine calls_abs ?_; intro R hR
  unfold script_step.f at hp0
  refine calls_of_runs (fn := Try.f24) (c := cd24 []) Try.func24 (by kernel_rfl) (al := [.agg #[.string a0_0, cond a0_1 (.func (.func 21) #[] #[.pointer (some ⟨ba0_1c0, 0, none⟩), .pointer (some ⟨ba0_1c0vc0, 0, none⟩)]) .nilFunc, cond a0_2 (.func (.func 22) #[] #[.pointer (some ⟨ba0_1c0, 0, none⟩), .pointer (some ⟨ba0_1c0vc0, 0, none⟩)]) .nilFunc, cond a0_3 (.func (.func 23) #[] #[.pointer (some ⟨ba0_1c0, 0, none⟩), .pointer (some ⟨ba0_1c0vc0, 0, none⟩)]) .nilFunc], .string a1, .agg (enc_api_Pick a2).toArray]) rfl (n := 15) rfl ?_
  refine sx_run 2 (todo' := [.inRegion (opsOf (cd24 [0])) [0, 1, 2, 3], .code (cd24 [1])]) (us := []) (by kernel_rfl) ?_
  refine r_box (c := (cd24 [0])) (i := 0) (d := (some 3)) (ty := 0) (x := (.tmp 0)) (v := .agg #[.string a0_0, cond a0_1 (.func (.func 21) #[] #[.pointer (some ⟨ba0_1c0, 0, none⟩), .pointer (some ⟨ba0_1c0vc0, 0, none⟩)]) .nilFunc, cond a0_2 (.func (.func 22) #[] #[.pointer (some ⟨ba0_1c0, 0, none⟩), .pointer (some ⟨ba0_1c0vc0, 0, none⟩)]) .nilFunc, cond a0_3 (.func (.func 23) #[] #[.pointer (some ⟨ba0_1c0, 0, none⟩), .pointer (some ⟨ba0_1c0vc0, 0, none⟩)]) .nilFunc]) (t := 31) (cs := [.string a0_0, cond a0_1 (.func (.func 21) #[] #[.pointer (some ⟨ba0_1c0, 0, none⟩), .pointer (some ⟨ba0_1c0vc0, 0, none⟩)]) .nilFunc, cond a0_2 (.func (.func 22) #[] #[.pointer (some ⟨ba0_1c0, 0, none⟩), .pointer (some ⟨ba0_1c0vc0, 0, none⟩)]) .nilFunc, cond a0_3 (.func (.func 23) #[] #[.pointer (some ⟨ba0_1c0, 0, none⟩), .pointer (some ⟨ba0_1c0vc0, 0, none⟩)]) .nilFunc]) hS0 (by kernel_rfl) (by kernel_rfl) (by kernel_rfl) (by kernel_rfl) ?_
  intro b1 w2 hS3
  refine r_box (c := (cd24 [0])) (i := 1) (d := (some 5)) (ty := 0) (x := (.tmp 2)) (v := .agg (enc_api_Pick a2).toArray) (t := 39) (cs := enc_api_Pick a2) hS3 (by kernel_rfl) (by kernel_rfl) (by kernel_rfl) (by kernel_rfl) ?_
  intro b5 w6 hS7
  refine sx_run 7 (todo' := [.inRegion (opsOf (cd24 [1, 0, 0])) [1, 2], .code (cd24 [1, 0, 1]), .code (cd24 [1, 1])]) (us := [(6, .string (⟨#[]⟩ : ByteArray)), (7, .bool false), (8, .pointer (some ⟨b1, 2, none⟩))]) (by kernel_rfl) ?_
  refine r_load (c := (cd24 [1, 0, 0])) (i := 1) (d := (some 9)) (ty := 28) (t := 28) (x := (.tmp 8)) (p := ⟨b1, 2, none⟩) (v := cond a0_2 (.func (.func 22) #[] #[.pointer (some ⟨ba0_1c0, 0, none⟩), .pointer (some ⟨ba0_1c0vc0, 0, none⟩)]) .nilFunc) (by kernel_rfl) (by kernel_rfl) (by kernel_rfl) (loads_at 2 (hS7.blk 1 rfl) (by kernel_rfl) (by kernel_rfl)) ?_
  cases a0_2
  ·skip
   have hp9 := ite_f hp0 rfl
   refine sx_run 8 (todo' := [.code (cd24 [1, 0, 1, 0, 1]), .code (cd24 [1, 1])]) (us := [(10, .bool true), (6, .string (⟨#[]⟩ : ByteArray)), (7, .bool false)]) (by kernel_rfl) ?_
   have hS10 := hS7.drop
   have hS11 := hS10.drop
   refine runs_ret (fn := Try.f24) (v := .tuple #[.string (⟨#[]⟩ : ByteArray), .bool false]) Try.func24 (by kernel_rfl) ?_
   have hr12 := (Option.some.inj hp9)
   cases hr12
   exact hR _ _ ⟨rfl, hS11⟩
  ·skip
   have hp13 := ite_t hp0 rfl
   refine sx_run 7 (todo' := [.inRegion (opsOf (cd24 [1, 1, 0])) [1, 2, 3, 4, 5, 6, 7, 8], .code (cd24 [1, 1, 1])]) (us := [(10, .bool false), (11, .pointer (some ⟨b1, 2, none⟩))]) (by kernel_rfl) ?_
   refine r_load (c := (cd24 [1, 1, 0])) (i := 1) (d := (some 12)) (ty := 28) (t := 28) (x := (.tmp 11)) (p := ⟨b1, 2, none⟩) (v := .func (.func 22) #[] #[.pointer (some ⟨ba0_1c0, 0, none⟩), .pointer (some ⟨ba0_1c0vc0, 0, none⟩)]) (by kernel_rfl) (by kernel_rfl) (by kernel_rfl) (loads_at 2 (hS7.blk 1 rfl) (by kernel_rfl) (by kernel_rfl)) ?_
   refine sx_run 1 (todo' := [.inRegion (opsOf (cd24 [1, 1, 0])) [3, 4, 5, 6, 7, 8], .code (cd24 [1, 1, 1])]) (us := [(13, .string a1)]) (by kernel_rfl) ?_
   refine r_load (c := (cd24 [1, 1, 0])) (i := 3) (d := (some 14)) (ty := 39) (t := 39) (x := (.tmp 5)) (p := ⟨b5, 0, none⟩) (v := .agg (enc_api_Pick a2).toArray) (by kernel_rfl) (by kernel_rfl) (by kernel_rfl) (loads_agg (hS7.blk 0 rfl) (by kernel_rfl) (by kernel_rfl)) ?_
   obtain ⟨⟨t14, t15⟩, hr16, hp17⟩ := bind_some' hp13
   try dsimp only at hp17
   have hS19 := hS7.pick3
   have hS20 := hS19.pick3
   refine r_call1 (c := (cd24 [1, 1, 0])) (i := 4) (d := (some 15)) (g := 22) (args := #[.string a1, .agg (enc_api_Pick a2).toArray, .pointer (some ⟨ba0_1c0, 0, none⟩), .pointer (some ⟨ba0_1c0vc0, 0, none⟩)]) (by kernel_rfl) (by kernel_rfl) (by kernel_rfl) (by kernel_rfl) (weirlaw15_Graph__Machine_3.ok a1 a2 (⟨a0_1c0vc0v.To, a0_1c0vc0v.Ends, a0_1c0vc0v.Odd, a0_1c0vc0v.Holes⟩ : weirlaw15_Graph) ba0_1c0 ba0_1c0vc0 Aa0_1c0vc0v_0 ca0_1c0vc0v_0 hS20 ha0_1c0vc0v_0 hr16) ?_
   rintro _ w21 ⟨rfl, hS22⟩
   refine ⟨.tuple #[.string t14, .bool t15], rfl, ?_⟩
   refine sx_run 5 (todo' := [.code (cd24 [1, 1, 1])]) (us := [(16, .string t14), (17, .bool t15), (6, .string t14), (7, .bool t15)]) (by kernel_rfl) ?_
   have hS23 := hS22.pick2
   have hS24 := hS23.drop
   have hS25 := hS24.pick2
   have hS26 := hS25.drop
   refine runs_ret (fn := Try.f24) (v := .tuple #[.string t14, .bool t15]) Try.func24 (by kernel_rfl) ?_
   have hr27 := (Option.some.inj hp17)
   cases hr27
   exact hR _ _ ⟨rfl, hS26⟩

noncomputable def cd10 (p : List Nat) : Code := sub (bodyOf Try.f10) p
def script_Replay.l0 (a0_0 : ByteArray) (a0_1 : Bool) (a0_1c0vc0v : weirlaw15_Graph) (a0_2 : Bool) (a0_3 : Bool) (a1 : List api_Pick) (t29 : List ByteArray) (t33 : ByteArray) (t34 : Int) (t35 : List Bool) : Option ((List ByteArray) × (List Bool)) :=
  (if (decide (t34 < (a1.length : Int))) = true then (if 0 ≤ t34 ∧ t34 < (a1.length : Int) then (script_step.f a0_0 a0_1 (⟨a0_1c0vc0v.To, a0_1c0vc0v.Ends, a0_1c0vc0v.Odd, a0_1c0vc0v.Holes⟩ : weirlaw15_Graph) a0_2 a0_3 t33 (gt a1 t34) >>= (fun (t60, t61) => (((if t61 = true then (if 0 ≤ t34 ∧ t34 < (t35.length : Int) then some ((t60, (setl t35 t34 true))) else none) else some ((t33, t35))) : Option (ByteArray × (List Bool))) >>= (fun (t72, t73) => (if (t29.length + ([t72] : List ByteArray).length) * 16 ≤ 140737488355328 then (script_Replay.l0 a0_0 a0_1 a0_1c0vc0v a0_2 a0_3 a1 (t29 ++ ([t72] : List ByteArray)) t72 (IntKind.i64.wrap (t34 + 1)) t73) else none))))) else none) else some ((t29, t35)))
 partial_fixpoint
def script_Replay.f (a0_0 : ByteArray) (a0_1 : Bool) (a0_1c0vc0v : weirlaw15_Graph) (a0_2 : Bool) (a0_3 : Bool) (a1 : List api_Pick) : Option ((List ByteArray) × (List Bool)) :=
  (if 0 ≤ (a1.length : Int) ∧ (a1.length : Int) * 1 ≤ 140737488355328 then (script_Replay.l0 a0_0 a0_1 a0_1c0vc0v a0_2 a0_3 a1 ([a0_0] : List ByteArray) a0_0 0 (List.replicate (a1.length : Int).toNat false) >>= (fun (t18, t22) => some ((t18, t22)))) else none)
set_option maxHeartbeats 16000000 in
theorem script_Replay.ok (a0_0 : ByteArray) (a0_1 : Bool) (a0_1c0vc0v : weirlaw15_Graph) (a0_2 : Bool) (a0_3 : Bool) (a1 : List api_Pick) (ba0_1c0 : Nat) (ba0_1c0vc0 : Nat) (Aa0_1c0vc0v_0 : Option Addr) (ca0_1c0vc0v_0 : Nat) (Aa1 : Option Addr) (ca1 : Nat) {w0 : World} {Z : Zm} {fs : List XObj} {w : World} (hS0 : St w0 Z (xblk ba0_1c0 53 ([.func (.func 20) #[] #[.pointer (some ⟨ba0_1c0vc0, 0, none⟩)]]) :: xblk ba0_1c0vc0 25 ([.slice Aa0_1c0vc0v_0 a0_1c0vc0v.To.length ca0_1c0vc0v_0, .int .u64 a0_1c0vc0v.Ends, .bool a0_1c0vc0v.Odd, .int .i64 a0_1c0vc0v.Holes]) :: fs) w) (ha0_1c0vc0v_0 : SlZ (repL (flat (encI .i64)) 1) 1 Z Aa0_1c0vc0v_0 ca0_1c0vc0v_0 a0_1c0vc0v.To) (ha1 : SlZ (flat enc_api_Pick) 3 Z Aa1 ca1 a1) {q0 : List ByteArray} {q1 : List Bool} (hp0 : script_Replay.f a0_0 a0_1 a0_1c0vc0v a0_2 a0_3 a1 = some (q0, q1)) :
    Calls Try.prog 10 #[.agg #[.string a0_0, cond a0_1 (.func (.func 21) #[] #[.pointer (some ⟨ba0_1c0, 0, none⟩), .pointer (some ⟨ba0_1c0vc0, 0, none⟩)]) .nilFunc, cond a0_2 (.func (.func 22) #[] #[.pointer (some ⟨ba0_1c0, 0, none⟩), .pointer (some ⟨ba0_1c0vc0, 0, none⟩)]) .nilFunc, cond a0_3 (.func (.func 23) #[] #[.pointer (some ⟨ba0_1c0, 0, none⟩), .pointer (some ⟨ba0_1c0vc0, 0, none⟩)]) .nilFunc], .slice Aa1 a1.length ca1] w (fun e w' => ∃ (QA0 : Option Addr) (Qc0 : Nat) (QA2 : Option Addr) (Qc2 : Nat), e = .returned (.tuple #[.slice QA0 q0.length Qc0, .slice QA2 q1.length Qc2]) ∧ St w0 Z (xrow QA0 Qc0 9 1 (q0.flatMap encS) :: xrow QA2 Qc2 4 1 (q1.flatMap encB) :: xblk ba0_1c0 53 ([.func (.func 20) #[] #[.pointer (some ⟨ba0_1c0vc0, 0, none⟩)]]) :: xblk ba0_1c0vc0 25 ([.slice Aa0_1c0vc0v_0 a0_1c0vc0v.To.length ca0_1c0vc0v_0, .int .u64 a0_1c0vc0v.Ends, .bool a0_1c0vc0v.Odd, .int .i64 a0_1c0vc0v.Holes]) :: fs) w') := by
  refine calls_abs ?_; intro R hR
  unfold script_Replay.f at hp0
  refine calls_of_runs (fn := Try.f10) (c := cd10 []) Try.func10 (by kernel_rfl) (al := [.agg #[.string a0_0, cond a0_1 (.func (.func 21) #[] #[.pointer (some ⟨ba0_1c0, 0, none⟩), .pointer (some ⟨ba0_1c0vc0, 0, none⟩)]) .nilFunc, cond a0_2 (.func (.func 22) #[] #[.pointer (some ⟨ba0_1c0, 0, none⟩), .pointer (some ⟨ba0_1c0vc0, 0, none⟩)]) .nilFunc, cond a0_3 (.func (.func 23) #[] #[.pointer (some ⟨ba0_1c0, 0, none⟩), .pointer (some ⟨ba0_1c0vc0, 0, none⟩)]) .nilFunc], .slice Aa1 a1.length ca1]) rfl (n := 45) rfl ?_
  refine sx_run 2 (todo' := [.inRegion (opsOf (cd10 [0])) [0, 1, 2], .code (cd10 [1])]) (us := []) (by kernel_rfl) ?_
  refine r_box (c := (cd10 [0])) (i := 0) (d := (some 2)) (ty := 0) (x := (.tmp 0)) (v := .agg #[.string a0_0, cond a0_1 (.func (.func 21) #[] #[.pointer (some ⟨ba0_1c0, 0, none⟩), .pointer (some ⟨ba0_1c0vc0, 0, none⟩)]) .nilFunc, cond a0_2 (.func (.func 22) #[] #[.pointer (some ⟨ba0_1c0, 0, none⟩), .pointer (some ⟨ba0_1c0vc0, 0, none⟩)]) .nilFunc, cond a0_3 (.func (.func 23) #[] #[.pointer (some ⟨ba0_1c0, 0, none⟩), .pointer (some ⟨ba0_1c0vc0, 0, none⟩)]) .nilFunc]) (t := 31) (cs := [.string a0_0, cond a0_1 (.func (.func 21) #[] #[.pointer (some ⟨ba0_1c0, 0, none⟩), .pointer (some ⟨ba0_1c0vc0, 0, none⟩)]) .nilFunc, cond a0_2 (.func (.func 22) #[] #[.pointer (some ⟨ba0_1c0, 0, none⟩), .pointer (some ⟨ba0_1c0vc0, 0, none⟩)]) .nilFunc, cond a0_3 (.func (.func 23) #[] #[.pointer (some ⟨ba0_1c0, 0, none⟩), .pointer (some ⟨ba0_1c0vc0, 0, none⟩)]) .nilFunc]) hS0 (by kernel_rfl) (by kernel_rfl) (by kernel_rfl) (by kernel_rfl) ?_
  intro b1 w2 hS3
  refine sx_run 4 (todo' := [.code (cd10 [1, 0]), .code (cd10 [1, 1])]) (us := [(4, .slice none 0 0), (5, .slice none 0 0)]) (by kernel_rfl) ?_
  obtain ⟨g9, hp10⟩ := ite_some hp0
  refine r_drawnP (S := Option Nat × Option (Option Addr)) (dn := (fun (st : Option Nat × Option (Option Addr)) k => [st.1.isSome, st.2.isSome].getD k true)) (C := (fun st w' => match st with | (none, none) => St w0 Z (xblk b1 31 ([.string a0_0, cond a0_1 (.func (.func 21) #[] #[.pointer (some ⟨ba0_1c0, 0, none⟩), .pointer (some ⟨ba0_1c0vc0, 0, none⟩)]) .nilFunc, cond a0_2 (.func (.func 22) #[] #[.pointer (some ⟨ba0_1c0, 0, none⟩), .pointer (some ⟨ba0_1c0vc0, 0, none⟩)]) .nilFunc, cond a0_3 (.func (.func 23) #[] #[.pointer (some ⟨ba0_1c0, 0, none⟩), .pointer (some ⟨ba0_1c0vc0, 0, none⟩)]) .nilFunc]) :: xblk ba0_1c0 53 ([.func (.func 20) #[] #[.pointer (some ⟨ba0_1c0vc0, 0, none⟩)]]) :: xblk ba0_1c0vc0 25 ([.slice Aa0_1c0vc0v_0 a0_1c0vc0v.To.length ca0_1c0vc0v_0, .int .u64 a0_1c0vc0v.Ends, .bool a0_1c0vc0v.Odd, .int .i64 a0_1c0vc0v.Holes]) :: fs) w' | (none, some A7) => St w0 Z (xrow A7 ((a1.length : Int).toNat) 4 1 ((List.replicate (a1.length : Int).toNat false).flatMap encB) :: xblk b1 31 ([.string a0_0, cond a0_1 (.func (.func 21) #[] #[.pointer (some ⟨ba0_1c0, 0, none⟩), .pointer (some ⟨ba0_1c0vc0, 0, none⟩)]) .nilFunc, cond a0_2 (.func (.func 22) #[] #[.pointer (some ⟨ba0_1c0, 0, none⟩), .pointer (some ⟨ba0_1c0vc0, 0, none⟩)]) .nilFunc, cond a0_3 (.func (.func 23) #[] #[.pointer (some ⟨ba0_1c0, 0, none⟩), .pointer (some ⟨ba0_1c0vc0, 0, none⟩)]) .nilFunc]) :: xblk ba0_1c0 53 ([.func (.func 20) #[] #[.pointer (some ⟨ba0_1c0vc0, 0, none⟩)]]) :: xblk ba0_1c0vc0 25 ([.slice Aa0_1c0vc0v_0 a0_1c0vc0v.To.length ca0_1c0vc0v_0, .int .u64 a0_1c0vc0v.Ends, .bool a0_1c0vc0v.Odd, .int .i64 a0_1c0vc0v.Holes]) :: fs) w' | (some b5, none) => St w0 Z (xrow (some ⟨b5, 0, none⟩) 1 9 1 (([a0_0] : List ByteArray).flatMap encS) :: xblk b1 31 ([.string a0_0, cond a0_1 (.func (.func 21) #[] #[.pointer (some ⟨ba0_1c0, 0, none⟩), .pointer (some ⟨ba0_1c0vc0, 0, none⟩)]) .nilFunc, cond a0_2 (.func (.func 22) #[] #[.pointer (some ⟨ba0_1c0, 0, none⟩), .pointer (some ⟨ba0_1c0vc0, 0, none⟩)]) .nilFunc, cond a0_3 (.func (.func 23) #[] #[.pointer (some ⟨ba0_1c0, 0, none⟩), .pointer (some ⟨ba0_1c0vc0, 0, none⟩)]) .nilFunc]) :: xblk ba0_1c0 53 ([.func (.func 20) #[] #[.pointer (some ⟨ba0_1c0vc0, 0, none⟩)]]) :: xblk ba0_1c0vc0 25 ([.slice Aa0_1c0vc0v_0 a0_1c0vc0v.To.length ca0_1c0vc0v_0, .int .u64 a0_1c0vc0v.Ends, .bool a0_1c0vc0v.Odd, .int .i64 a0_1c0vc0v.Holes]) :: fs) w' | (some b5, some A7) => St w0 Z (xrow A7 ((a1.length : Int).toNat) 4 1 ((List.replicate (a1.length : Int).toNat false).flatMap encB) :: xrow (some ⟨b5, 0, none⟩) 1 9 1 (([a0_0] : List ByteArray).flatMap encS) :: xblk b1 31 ([.string a0_0, cond a0_1 (.func (.func 21) #[] #[.pointer (some ⟨ba0_1c0, 0, none⟩), .pointer (some ⟨ba0_1c0vc0, 0, none⟩)]) .nilFunc, cond a0_2 (.func (.func 22) #[] #[.pointer (some ⟨ba0_1c0, 0, none⟩), .pointer (some ⟨ba0_1c0vc0, 0, none⟩)]) .nilFunc, cond a0_3 (.func (.func 23) #[] #[.pointer (some ⟨ba0_1c0, 0, none⟩), .pointer (some ⟨ba0_1c0vc0, 0, none⟩)]) .nilFunc]) :: xblk ba0_1c0 53 ([.func (.func 20) #[] #[.pointer (some ⟨ba0_1c0vc0, 0, none⟩)]]) :: xblk ba0_1c0vc0 25 ([.slice Aa0_1c0vc0v_0 a0_1c0vc0v.To.length ca0_1c0vc0v_0, .int .u64 a0_1c0vc0v.Ends, .bool a0_1c0vc0v.Odd, .int .i64 a0_1c0vc0v.Holes]) :: fs) w')) (v := (fun st => match st with | (none, none) => [.pointer (some ⟨b1, 0, none⟩), .string a0_0, undef, .slice Aa1 a1.length ca1, .int .i64 (a1.length : Int), undef, undef, undef] | (none, some A7) => [.pointer (some ⟨b1, 0, none⟩), .string a0_0, undef, .slice Aa1 a1.length ca1, .int .i64 (a1.length : Int), .slice A7 (List.replicate (a1.length : Int).toNat false).length (a1.length : Int).toNat, undef, undef] | (some b5, none) => [.pointer (some ⟨b1, 0, none⟩), .string a0_0, .slice (some ⟨b5, 0, none⟩) ([a0_0] : List ByteArray).length 1, .slice Aa1 a1.length ca1, .int .i64 (a1.length : Int), undef, .slice (some ⟨b5, 0, none⟩) ([a0_0] : List ByteArray).length 1, undef] | (some b5, some A7) => [.pointer (some ⟨b1, 0, none⟩), .string a0_0, .slice (some ⟨b5, 0, none⟩) ([a0_0] : List ByteArray).length 1, .slice Aa1 a1.length ca1, .int .i64 (a1.length : Int), .slice A7 (List.replicate (a1.length : Int).toNat false).length (a1.length : Int).toNat, .slice (some ⟨b5, 0, none⟩) ([a0_0] : List ByteArray).length 1, .slice A7 (List.replicate (a1.length : Int).toNat false).length ((a1.length : Int).toNat)])) (c := (cd10 [1, 0])) (id := 1) (none, none) 0 8 [2, 5] [[], [], [], [], [], [], [0], [0, 1]] [[], [0], [], [], [1], [], [], []] [] [true, true, true, true, true, true, true, true] (by kernel_rfl) (by kernel_rfl) (by kernel_rfl) (by kernel_rfl) (by kernel_rfl) (by kernel_rfl) (by kernel_rfl) (by kernel_rfl) (by kernel_rfl) (fun k hk => match k, hk with | 0, _ => rfl | 1, _ => rfl | k + 2, hk => absurd hk (by simp)) hS3.drew ?_ (fun k hk => match k, hk with | 0, _ => rfl | 1, _ => rfl | k + 2, hk => absurd hk (by simp)) ?_ ?_ ?_
  ·intro i hi st w hC hd
   match i, hi with
   | 0, _ => (show _ = _; kernel_rfl)
   | 1, _ => (show _ = _; kernel_rfl)
   | 2, _ => (show _ = _; kernel_rfl)
   | 3, _ => (show _ = _; kernel_rfl)
   | 4, _ => (show _ = _; kernel_rfl)
   | 5, _ => (show _ = _; kernel_rfl)
   | 6, _ => (show _ = _; kernel_rfl)
   | 7, _ => (show _ = _; kernel_rfl)
   | i + 8, hi => exact absurd hi (by omega)
  ·intro i hi he st w hC hd hu
   match i, hi, he with
   | 0, _, _ =>
    rcases st with ⟨_ | b5, _ | A7⟩
    ·replace hC : St w0 Z (xblk b1 31 ([.string a0_0, cond a0_1 (.func (.func 21) #[] #[.pointer (some ⟨ba0_1c0, 0, none⟩), .pointer (some ⟨ba0_1c0vc0, 0, none⟩)]) .nilFunc, cond a0_2 (.func (.func 22) #[] #[.pointer (some ⟨ba0_1c0, 0, none⟩), .pointer (some ⟨ba0_1c0vc0, 0, none⟩)]) .nilFunc, cond a0_3 (.func (.func 23) #[] #[.pointer (some ⟨ba0_1c0, 0, none⟩), .pointer (some ⟨ba0_1c0vc0, 0, none⟩)]) .nilFunc]) :: xblk ba0_1c0 53 ([.func (.func 20) #[] #[.pointer (some ⟨ba0_1c0vc0, 0, none⟩)]]) :: xblk ba0_1c0vc0 25 ([.slice Aa0_1c0vc0v_0 a0_1c0vc0v.To.length ca0_1c0vc0v_0, .int .u64 a0_1c0vc0v.Ends, .bool a0_1c0vc0v.Odd, .int .i64 a0_1c0vc0v.Holes]) :: fs) w := hC
     exact ⟨fun _ => does_pure (v := .pointer (some ⟨b1, 0, none⟩)) (by kernel_rfl) rfl hC, fun h => absurd h (by decide)⟩
    ·replace hC : St w0 Z (xrow A7 ((a1.length : Int).toNat) 4 1 ((List.replicate (a1.length : Int).toNat false).flatMap encB) :: xblk b1 31 ([.string a0_0, cond a0_1 (.func (.func 21) #[] #[.pointer (some ⟨ba0_1c0, 0, none⟩), .pointer (some ⟨ba0_1c0vc0, 0, none⟩)]) .nilFunc, cond a0_2 (.func (.func 22) #[] #[.pointer (some ⟨ba0_1c0, 0, none⟩), .pointer (some ⟨ba0_1c0vc0, 0, none⟩)]) .nilFunc, cond a0_3 (.func (.func 23) #[] #[.pointer (some ⟨ba0_1c0, 0, none⟩), .pointer (some ⟨ba0_1c0vc0, 0, none⟩)]) .nilFunc]) :: xblk ba0_1c0 53 ([.func (.func 20) #[] #[.pointer (some ⟨ba0_1c0vc0, 0, none⟩)]]) :: xblk ba0_1c0vc0 25 ([.slice Aa0_1c0vc0v_0 a0_1c0vc0v.To.length ca0_1c0vc0v_0, .int .u64 a0_1c0vc0v.Ends, .bool a0_1c0vc0v.Odd, .int .i64 a0_1c0vc0v.Holes]) :: fs) w := hC
     exact ⟨fun _ => does_pure (v := .pointer (some ⟨b1, 0, none⟩)) (by kernel_rfl) rfl hC, fun h => absurd h (by decide)⟩
    ·replace hC : St w0 Z (xrow (some ⟨b5, 0, none⟩) 1 9 1 (([a0_0] : List ByteArray).flatMap encS) :: xblk b1 31 ([.string a0_0, cond a0_1 (.func (.func 21) #[] #[.pointer (some ⟨ba0_1c0, 0, none⟩), .pointer (some ⟨ba0_1c0vc0, 0, none⟩)]) .nilFunc, cond a0_2 (.func (.func 22) #[] #[.pointer (some ⟨ba0_1c0, 0, none⟩), .pointer (some ⟨ba0_1c0vc0, 0, none⟩)]) .nilFunc, cond a0_3 (.func (.func 23) #[] #[.pointer (some ⟨ba0_1c0, 0, none⟩), .pointer (some ⟨ba0_1c0vc0, 0, none⟩)]) .nilFunc]) :: xblk ba0_1c0 53 ([.func (.func 20) #[] #[.pointer (some ⟨ba0_1c0vc0, 0, none⟩)]]) :: xblk ba0_1c0vc0 25 ([.slice Aa0_1c0vc0v_0 a0_1c0vc0v.To.length ca0_1c0vc0v_0, .int .u64 a0_1c0vc0v.Ends, .bool a0_1c0vc0v.Odd, .int .i64 a0_1c0vc0v.Holes]) :: fs) w := hC
     exact ⟨fun _ => does_pure (v := .pointer (some ⟨b1, 0, none⟩)) (by kernel_rfl) rfl hC, fun h => absurd h (by decide)⟩
    ·replace hC : St w0 Z (xrow A7 ((a1.length : Int).toNat) 4 1 ((List.replicate (a1.length : Int).toNat false).flatMap encB) :: xrow (some ⟨b5, 0, none⟩) 1 9 1 (([a0_0] : List ByteArray).flatMap encS) :: xblk b1 31 ([.string a0_0, cond a0_1 (.func (.func 21) #[] #[.pointer (some ⟨ba0_1c0, 0, none⟩), .pointer (some ⟨ba0_1c0vc0, 0, none⟩)]) .nilFunc, cond a0_2 (.func (.func 22) #[] #[.pointer (some ⟨ba0_1c0, 0, none⟩), .pointer (some ⟨ba0_1c0vc0, 0, none⟩)]) .nilFunc, cond a0_3 (.func (.func 23) #[] #[.pointer (some ⟨ba0_1c0, 0, none⟩), .pointer (some ⟨ba0_1c0vc0, 0, none⟩)]) .nilFunc]) :: xblk ba0_1c0 53 ([.func (.func 20) #[] #[.pointer (some ⟨ba0_1c0vc0, 0, none⟩)]]) :: xblk ba0_1c0vc0 25 ([.slice Aa0_1c0vc0v_0 a0_1c0vc0v.To.length ca0_1c0vc0v_0, .int .u64 a0_1c0vc0v.Ends, .bool a0_1c0vc0v.Odd, .int .i64 a0_1c0vc0v.Holes]) :: fs) w := hC
     exact ⟨fun _ => does_pure (v := .pointer (some ⟨b1, 0, none⟩)) (by kernel_rfl) rfl hC, fun h => absurd h (by decide)⟩
   | 1, _, _ =>
    rcases st with ⟨_ | b5, _ | A7⟩
    ·replace hC : St w0 Z (xblk b1 31 ([.string a0_0, cond a0_1 (.func (.func 21) #[] #[.pointer (some ⟨ba0_1c0, 0, none⟩), .pointer (some ⟨ba0_1c0vc0, 0, none⟩)]) .nilFunc, cond a0_2 (.func (.func 22) #[] #[.pointer (some ⟨ba0_1c0, 0, none⟩), .pointer (some ⟨ba0_1c0vc0, 0, none⟩)]) .nilFunc, cond a0_3 (.func (.func 23) #[] #[.pointer (some ⟨ba0_1c0, 0, none⟩), .pointer (some ⟨ba0_1c0vc0, 0, none⟩)]) .nilFunc]) :: xblk ba0_1c0 53 ([.func (.func 20) #[] #[.pointer (some ⟨ba0_1c0vc0, 0, none⟩)]]) :: xblk ba0_1c0vc0 25 ([.slice Aa0_1c0vc0v_0 a0_1c0vc0v.To.length ca0_1c0vc0v_0, .int .u64 a0_1c0vc0v.Ends, .bool a0_1c0vc0v.Odd, .int .i64 a0_1c0vc0v.Holes]) :: fs) w := hC
     exact ⟨fun _ => does_run (x_load (t := 9) (x := (.tmp 13)) (p := ⟨b1, 0, none⟩) (v := .string a0_0) (by kernel_rfl) (loads_at 0 (hC.blk 0 rfl) (by kernel_rfl) (by kernel_rfl)) (by kernel_rfl)) rfl hC, fun h => absurd h (by decide)⟩
    ·replace hC : St w0 Z (xrow A7 ((a1.length : Int).toNat) 4 1 ((List.replicate (a1.length : Int).toNat false).flatMap encB) :: xblk b1 31 ([.string a0_0, cond a0_1 (.func (.func 21) #[] #[.pointer (some ⟨ba0_1c0, 0, none⟩), .pointer (some ⟨ba0_1c0vc0, 0, none⟩)]) .nilFunc, cond a0_2 (.func (.func 22) #[] #[.pointer (some ⟨ba0_1c0, 0, none⟩), .pointer (some ⟨ba0_1c0vc0, 0, none⟩)]) .nilFunc, cond a0_3 (.func (.func 23) #[] #[.pointer (some ⟨ba0_1c0, 0, none⟩), .pointer (some ⟨ba0_1c0vc0, 0, none⟩)]) .nilFunc]) :: xblk ba0_1c0 53 ([.func (.func 20) #[] #[.pointer (some ⟨ba0_1c0vc0, 0, none⟩)]]) :: xblk ba0_1c0vc0 25 ([.slice Aa0_1c0vc0v_0 a0_1c0vc0v.To.length ca0_1c0vc0v_0, .int .u64 a0_1c0vc0v.Ends, .bool a0_1c0vc0v.Odd, .int .i64 a0_1c0vc0v.Holes]) :: fs) w := hC
     exact ⟨fun _ => does_run (x_load (t := 9) (x := (.tmp 13)) (p := ⟨b1, 0, none⟩) (v := .string a0_0) (by kernel_rfl) (loads_at 0 (hC.blk 1 rfl) (by kernel_rfl) (by kernel_rfl)) (by kernel_rfl)) rfl hC, fun h => absurd h (by decide)⟩
    ·exact Bool.noConfusion (hu 0 (by decide))
    ·exact Bool.noConfusion (hu 0 (by decide))
   | 2, _, he => exact absurd he (by decide)
   | 3, _, _ =>
    rcases st with ⟨_ | b5, _ | A7⟩
    ·replace hC : St w0 Z (xblk b1 31 ([.string a0_0, cond a0_1 (.func (.func 21) #[] #[.pointer (some ⟨ba0_1c0, 0, none⟩), .pointer (some ⟨ba0_1c0vc0, 0, none⟩)]) .nilFunc, cond a0_2 (.func (.func 22) #[] #[.pointer (some ⟨ba0_1c0, 0, none⟩), .pointer (some ⟨ba0_1c0vc0, 0, none⟩)]) .nilFunc, cond a0_3 (.func (.func 23) #[] #[.pointer (some ⟨ba0_1c0, 0, none⟩), .pointer (some ⟨ba0_1c0vc0, 0, none⟩)]) .nilFunc]) :: xblk ba0_1c0 53 ([.func (.func 20) #[] #[.pointer (some ⟨ba0_1c0vc0, 0, none⟩)]]) :: xblk ba0_1c0vc0 25 ([.slice Aa0_1c0vc0v_0 a0_1c0vc0v.To.length ca0_1c0vc0v_0, .int .u64 a0_1c0vc0v.Ends, .bool a0_1c0vc0v.Odd, .int .i64 a0_1c0vc0v.Holes]) :: fs) w := hC
     exact ⟨fun _ => does_pure (v := .slice Aa1 a1.length ca1) (by kernel_rfl) rfl hC, fun h => absurd h (by decide)⟩
    ·replace hC : St w0 Z (xrow A7 ((a1.length : Int).toNat) 4 1 ((List.replicate (a1.length : Int).toNat false).flatMap encB) :: xblk b1 31 ([.string a0_0, cond a0_1 (.func (.func 21) #[] #[.pointer (some ⟨ba0_1c0, 0, none⟩), .pointer (some ⟨ba0_1c0vc0, 0, none⟩)]) .nilFunc, cond a0_2 (.func (.func 22) #[] #[.pointer (some ⟨ba0_1c0, 0, none⟩), .pointer (some ⟨ba0_1c0vc0, 0, none⟩)]) .nilFunc, cond a0_3 (.func (.func 23) #[] #[.pointer (some ⟨ba0_1c0, 0, none⟩), .pointer (some ⟨ba0_1c0vc0, 0, none⟩)]) .nilFunc]) :: xblk ba0_1c0 53 ([.func (.func 20) #[] #[.pointer (some ⟨ba0_1c0vc0, 0, none⟩)]]) :: xblk ba0_1c0vc0 25 ([.slice Aa0_1c0vc0v_0 a0_1c0vc0v.To.length ca0_1c0vc0v_0, .int .u64 a0_1c0vc0v.Ends, .bool a0_1c0vc0v.Odd, .int .i64 a0_1c0vc0v.Holes]) :: fs) w := hC
     exact ⟨fun _ => does_pure (v := .slice Aa1 a1.length ca1) (by kernel_rfl) rfl hC, fun h => absurd h (by decide)⟩
    ·replace hC : St w0 Z (xrow (some ⟨b5, 0, none⟩) 1 9 1 (([a0_0] : List ByteArray).flatMap encS) :: xblk b1 31 ([.string a0_0, cond a0_1 (.func (.func 21) #[] #[.pointer (some ⟨ba0_1c0, 0, none⟩), .pointer (some ⟨ba0_1c0vc0, 0, none⟩)]) .nilFunc, cond a0_2 (.func (.func 22) #[] #[.pointer (some ⟨ba0_1c0, 0, none⟩), .pointer (some ⟨ba0_1c0vc0, 0, none⟩)]) .nilFunc, cond a0_3 (.func (.func 23) #[] #[.pointer (some ⟨ba0_1c0, 0, none⟩), .pointer (some ⟨ba0_1c0vc0, 0, none⟩)]) .nilFunc]) :: xblk ba0_1c0 53 ([.func (.func 20) #[] #[.pointer (some ⟨ba0_1c0vc0, 0, none⟩)]]) :: xblk ba0_1c0vc0 25 ([.slice Aa0_1c0vc0v_0 a0_1c0vc0v.To.length ca0_1c0vc0v_0, .int .u64 a0_1c0vc0v.Ends, .bool a0_1c0vc0v.Odd, .int .i64 a0_1c0vc0v.Holes]) :: fs) w := hC
     exact ⟨fun _ => does_pure (v := .slice Aa1 a1.length ca1) (by kernel_rfl) rfl hC, fun h => absurd h (by decide)⟩
    ·replace hC : St w0 Z (xrow A7 ((a1.length : Int).toNat) 4 1 ((List.replicate (a1.length : Int).toNat false).flatMap encB) :: xrow (some ⟨b5, 0, none⟩) 1 9 1 (([a0_0] : List ByteArray).flatMap encS) :: xblk b1 31 ([.string a0_0, cond a0_1 (.func (.func 21) #[] #[.pointer (some ⟨ba0_1c0, 0, none⟩), .pointer (some ⟨ba0_1c0vc0, 0, none⟩)]) .nilFunc, cond a0_2 (.func (.func 22) #[] #[.pointer (some ⟨ba0_1c0, 0, none⟩), .pointer (some ⟨ba0_1c0vc0, 0, none⟩)]) .nilFunc, cond a0_3 (.func (.func 23) #[] #[.pointer (some ⟨ba0_1c0, 0, none⟩), .pointer (some ⟨ba0_1c0vc0, 0, none⟩)]) .nilFunc]) :: xblk ba0_1c0 53 ([.func (.func 20) #[] #[.pointer (some ⟨ba0_1c0vc0, 0, none⟩)]]) :: xblk ba0_1c0vc0 25 ([.slice Aa0_1c0vc0v_0 a0_1c0vc0v.To.length ca0_1c0vc0v_0, .int .u64 a0_1c0vc0v.Ends, .bool a0_1c0vc0v.Odd, .int .i64 a0_1c0vc0v.Holes]) :: fs) w := hC
     exact ⟨fun _ => does_pure (v := .slice Aa1 a1.length ca1) (by kernel_rfl) rfl hC, fun h => absurd h (by decide)⟩
   | 4, _, _ =>
    rcases st with ⟨_ | b5, _ | A7⟩
    ·replace hC : St w0 Z (xblk b1 31 ([.string a0_0, cond a0_1 (.func (.func 21) #[] #[.pointer (some ⟨ba0_1c0, 0, none⟩), .pointer (some ⟨ba0_1c0vc0, 0, none⟩)]) .nilFunc, cond a0_2 (.func (.func 22) #[] #[.pointer (some ⟨ba0_1c0, 0, none⟩), .pointer (some ⟨ba0_1c0vc0, 0, none⟩)]) .nilFunc, cond a0_3 (.func (.func 23) #[] #[.pointer (some ⟨ba0_1c0, 0, none⟩), .pointer (some ⟨ba0_1c0vc0, 0, none⟩)]) .nilFunc]) :: xblk ba0_1c0 53 ([.func (.func 20) #[] #[.pointer (some ⟨ba0_1c0vc0, 0, none⟩)]]) :: xblk ba0_1c0vc0 25 ([.slice Aa0_1c0vc0v_0 a0_1c0vc0v.To.length ca0_1c0vc0v_0, .int .u64 a0_1c0vc0v.Ends, .bool a0_1c0vc0v.Odd, .int .i64 a0_1c0vc0v.Holes]) :: fs) w := hC
     exact ⟨fun _ => does_pure (v := .int .i64 (a1.length : Int)) (by kernel_rfl) rfl hC, fun h => absurd h (by decide)⟩
    ·exact Bool.noConfusion (hu 1 (by decide))
    ·replace hC : St w0 Z (xrow (some ⟨b5, 0, none⟩) 1 9 1 (([a0_0] : List ByteArray).flatMap encS) :: xblk b1 31 ([.string a0_0, cond a0_1 (.func (.func 21) #[] #[.pointer (some ⟨ba0_1c0, 0, none⟩), .pointer (some ⟨ba0_1c0vc0, 0, none⟩)]) .nilFunc, cond a0_2 (.func (.func 22) #[] #[.pointer (some ⟨ba0_1c0, 0, none⟩), .pointer (some ⟨ba0_1c0vc0, 0, none⟩)]) .nilFunc, cond a0_3 (.func (.func 23) #[] #[.pointer (some ⟨ba0_1c0, 0, none⟩), .pointer (some ⟨ba0_1c0vc0, 0, none⟩)]) .nilFunc]) :: xblk ba0_1c0 53 ([.func (.func 20) #[] #[.pointer (some ⟨ba0_1c0vc0, 0, none⟩)]]) :: xblk ba0_1c0vc0 25 ([.slice Aa0_1c0vc0v_0 a0_1c0vc0v.To.length ca0_1c0vc0v_0, .int .u64 a0_1c0vc0v.Ends, .bool a0_1c0vc0v.Odd, .int .i64 a0_1c0vc0v.Holes]) :: fs) w := hC
     exact ⟨fun _ => does_pure (v := .int .i64 (a1.length : Int)) (by kernel_rfl) rfl hC, fun h => absurd h (by decide)⟩
    ·exact Bool.noConfusion (hu 1 (by decide))
   | 5, _, he => exact absurd he (by decide)
   | 6, _, _ =>
    rcases st with ⟨_ | b5, _ | A7⟩
    ·exact Bool.noConfusion (hd 0 (by decide))
    ·exact Bool.noConfusion (hd 0 (by decide))
    ·replace hC : St w0 Z (xrow (some ⟨b5, 0, none⟩) 1 9 1 (([a0_0] : List ByteArray).flatMap encS) :: xblk b1 31 ([.string a0_0, cond a0_1 (.func (.func 21) #[] #[.pointer (some ⟨ba0_1c0, 0, none⟩), .pointer (some ⟨ba0_1c0vc0, 0, none⟩)]) .nilFunc, cond a0_2 (.func (.func 22) #[] #[.pointer (some ⟨ba0_1c0, 0, none⟩), .pointer (some ⟨ba0_1c0vc0, 0, none⟩)]) .nilFunc, cond a0_3 (.func (.func 23) #[] #[.pointer (some ⟨ba0_1c0, 0, none⟩), .pointer (some ⟨ba0_1c0vc0, 0, none⟩)]) .nilFunc]) :: xblk ba0_1c0 53 ([.func (.func 20) #[] #[.pointer (some ⟨ba0_1c0vc0, 0, none⟩)]]) :: xblk ba0_1c0vc0 25 ([.slice Aa0_1c0vc0v_0 a0_1c0vc0v.To.length ca0_1c0vc0v_0, .int .u64 a0_1c0vc0v.Ends, .bool a0_1c0vc0v.Odd, .int .i64 a0_1c0vc0v.Holes]) :: fs) w := hC
     exact ⟨fun _ => does_pure (v := .slice (some ⟨b5, 0, none⟩) ([a0_0] : List ByteArray).length 1) (by kernel_rfl) rfl hC, fun h => absurd h (by decide)⟩
    ·replace hC : St w0 Z (xrow A7 ((a1.length : Int).toNat) 4 1 ((List.replicate (a1.length : Int).toNat false).flatMap encB) :: xrow (some ⟨b5, 0, none⟩) 1 9 1 (([a0_0] : List ByteArray).flatMap encS) :: xblk b1 31 ([.string a0_0, cond a0_1 (.func (.func 21) #[] #[.pointer (some ⟨ba0_1c0, 0, none⟩), .pointer (some ⟨ba0_1c0vc0, 0, none⟩)]) .nilFunc, cond a0_2 (.func (.func 22) #[] #[.pointer (some ⟨ba0_1c0, 0, none⟩), .pointer (some ⟨ba0_1c0vc0, 0, none⟩)]) .nilFunc, cond a0_3 (.func (.func 23) #[] #[.pointer (some ⟨ba0_1c0, 0, none⟩), .pointer (some ⟨ba0_1c0vc0, 0, none⟩)]) .nilFunc]) :: xblk ba0_1c0 53 ([.func (.func 20) #[] #[.pointer (some ⟨ba0_1c0vc0, 0, none⟩)]]) :: xblk ba0_1c0vc0 25 ([.slice Aa0_1c0vc0v_0 a0_1c0vc0v.To.length ca0_1c0vc0v_0, .int .u64 a0_1c0vc0v.Ends, .bool a0_1c0vc0v.Odd, .int .i64 a0_1c0vc0v.Holes]) :: fs) w := hC
     exact ⟨fun _ => does_pure (v := .slice (some ⟨b5, 0, none⟩) ([a0_0] : List ByteArray).length 1) (by kernel_rfl) rfl hC, fun h => absurd h (by decide)⟩
   | 7, _, _ =>
    rcases st with ⟨_ | b5, _ | A7⟩
    ·exact Bool.noConfusion (hd 0 (by decide))
    ·exact Bool.noConfusion (hd 0 (by decide))
    ·exact Bool.noConfusion (hd 1 (by decide))
    ·replace hC : St w0 Z (xrow A7 ((a1.length : Int).toNat) 4 1 ((List.replicate (a1.length : Int).toNat false).flatMap encB) :: xrow (some ⟨b5, 0, none⟩) 1 9 1 (([a0_0] : List ByteArray).flatMap encS) :: xblk b1 31 ([.string a0_0, cond a0_1 (.func (.func 21) #[] #[.pointer (some ⟨ba0_1c0, 0, none⟩), .pointer (some ⟨ba0_1c0vc0, 0, none⟩)]) .nilFunc, cond a0_2 (.func (.func 22) #[] #[.pointer (some ⟨ba0_1c0, 0, none⟩), .pointer (some ⟨ba0_1c0vc0, 0, none⟩)]) .nilFunc, cond a0_3 (.func (.func 23) #[] #[.pointer (some ⟨ba0_1c0, 0, none⟩), .pointer (some ⟨ba0_1c0vc0, 0, none⟩)]) .nilFunc]) :: xblk ba0_1c0 53 ([.func (.func 20) #[] #[.pointer (some ⟨ba0_1c0vc0, 0, none⟩)]]) :: xblk ba0_1c0vc0 25 ([.slice Aa0_1c0vc0v_0 a0_1c0vc0v.To.length ca0_1c0vc0v_0, .int .u64 a0_1c0vc0v.Ends, .bool a0_1c0vc0v.Odd, .int .i64 a0_1c0vc0v.Holes]) :: fs) w := hC
     exact ⟨fun _ => does_pure (v := .slice A7 (List.replicate (a1.length : Int).toNat false).length ((a1.length : Int).toNat)) (by kernel_rfl) rfl hC, fun h => absurd h (by decide)⟩
   | i + 8, hi, _ => exact absurd hi (by omega)
  ·intro k hk st w hC hr hm
   match k, hk with
   | 0, _ =>
    rcases st with ⟨_ | b5, _ | A7⟩
    ·replace hC : St w0 Z (xblk b1 31 ([.string a0_0, cond a0_1 (.func (.func 21) #[] #[.pointer (some ⟨ba0_1c0, 0, none⟩), .pointer (some ⟨ba0_1c0vc0, 0, none⟩)]) .nilFunc, cond a0_2 (.func (.func 22) #[] #[.pointer (some ⟨ba0_1c0, 0, none⟩), .pointer (some ⟨ba0_1c0vc0, 0, none⟩)]) .nilFunc, cond a0_3 (.func (.func 23) #[] #[.pointer (some ⟨ba0_1c0, 0, none⟩), .pointer (some ⟨ba0_1c0vc0, 0, none⟩)]) .nilFunc]) :: xblk ba0_1c0 53 ([.func (.func 20) #[] #[.pointer (some ⟨ba0_1c0vc0, 0, none⟩)]]) :: xblk ba0_1c0vc0 25 ([.slice Aa0_1c0vc0v_0 a0_1c0vc0v.To.length ca0_1c0vc0v_0, .int .u64 a0_1c0vc0v.Ends, .bool a0_1c0vc0v.Odd, .int .i64 a0_1c0vc0v.Holes]) :: fs) w := hC
     refine does_lit (t := 40) (e := 9) (sz := 1) (n := 1) (parts := #[(0, (.tmp 14))]) (vs := [(0, .string a0_0)]) (z := zeroOf Try.prog 9) (cs' := ([a0_0] : List ByteArray).flatMap encS) hC (by kernel_rfl) (by kernel_rfl) (by kernel_rfl) (by kernel_rfl) (by decide) (by decide) (by kernel_rfl) rfl (Parts.cons (c := [.string a0_0]) (by kernel_rfl) rfl Parts.nil) rfl ?_
     intro b5 w2 h2
     have h2 := h2.pick3
     have h2 := h2.pick3
     have h2 := h2.pick3
     have h2 := h2.pick3
     refine ⟨(some b5, none), rfl, ?_, ?_, .inr rfl, h2⟩
     ·intro m hne; match m, hne with
      | 0, hne => exact absurd rfl hne
      | 1, hne => exact rfl
      | m + 2, _ => exact rfl
     ·intro j hj; match j, hj with
      | 0, hj => exact rfl
      | 1, hj => exact rfl
      | 2, hj => exact absurd (by decide) hj
      | 3, hj => exact rfl
      | 4, hj => exact rfl
      | 5, hj => exact rfl
      | 6, hj => exact absurd (by decide) hj
      | 7, hj => exact absurd (by decide) hj
      | j + 8, _ => exact rfl
    ·replace hC : St w0 Z (xrow A7 ((a1.length : Int).toNat) 4 1 ((List.replicate (a1.length : Int).toNat false).flatMap encB) :: xblk b1 31 ([.string a0_0, cond a0_1 (.func (.func 21) #[] #[.pointer (some ⟨ba0_1c0, 0, none⟩), .pointer (some ⟨ba0_1c0vc0, 0, none⟩)]) .nilFunc, cond a0_2 (.func (.func 22) #[] #[.pointer (some ⟨ba0_1c0, 0, none⟩), .pointer (some ⟨ba0_1c0vc0, 0, none⟩)]) .nilFunc, cond a0_3 (.func (.func 23) #[] #[.pointer (some ⟨ba0_1c0, 0, none⟩), .pointer (some ⟨ba0_1c0vc0, 0, none⟩)]) .nilFunc]) :: xblk ba0_1c0 53 ([.func (.func 20) #[] #[.pointer (some ⟨ba0_1c0vc0, 0, none⟩)]]) :: xblk ba0_1c0vc0 25 ([.slice Aa0_1c0vc0v_0 a0_1c0vc0v.To.length ca0_1c0vc0v_0, .int .u64 a0_1c0vc0v.Ends, .bool a0_1c0vc0v.Odd, .int .i64 a0_1c0vc0v.Holes]) :: fs) w := hC
     refine does_lit (t := 40) (e := 9) (sz := 1) (n := 1) (parts := #[(0, (.tmp 14))]) (vs := [(0, .string a0_0)]) (z := zeroOf Try.prog 9) (cs' := ([a0_0] : List ByteArray).flatMap encS) hC (by kernel_rfl) (by kernel_rfl) (by kernel_rfl) (by kernel_rfl) (by decide) (by decide) (by kernel_rfl) rfl (Parts.cons (c := [.string a0_0]) (by kernel_rfl) rfl Parts.nil) rfl ?_
     intro b5 w2 h2
     have h2 := h2.pick4
     have h2 := h2.pick4
     have h2 := h2.pick4
     have h2 := h2.pick3
     have h2 := h2.pick4
     refine ⟨(some b5, some A7), rfl, ?_, ?_, .inr rfl, h2⟩
     ·intro m hne; match m, hne with
      | 0, hne => exact absurd rfl hne
      | 1, hne => exact rfl
      | m + 2, _ => exact rfl
     ·intro j hj; match j, hj with
      | 0, hj => exact rfl
      | 1, hj => exact rfl
      | 2, hj => exact absurd (by decide) hj
      | 3, hj => exact rfl
      | 4, hj => exact rfl
      | 5, hj => exact rfl
      | 6, hj => exact absurd (by decide) hj
      | 7, hj => exact absurd (by decide) hj
      | j + 8, _ => exact rfl
    ·exact Bool.noConfusion hr
    ·exact Bool.noConfusion hr
   | 1, _ =>
    rcases st with ⟨_ | b5, _ | A7⟩
    ·replace hC : St w0 Z (xblk b1 31 ([.string a0_0, cond a0_1 (.func (.func 21) #[] #[.pointer (some ⟨ba0_1c0, 0, none⟩), .pointer (some ⟨ba0_1c0vc0, 0, none⟩)]) .nilFunc, cond a0_2 (.func (.func 22) #[] #[.pointer (some ⟨ba0_1c0, 0, none⟩), .pointer (some ⟨ba0_1c0vc0, 0, none⟩)]) .nilFunc, cond a0_3 (.func (.func 23) #[] #[.pointer (some ⟨ba0_1c0, 0, none⟩), .pointer (some ⟨ba0_1c0vc0, 0, none⟩)]) .nilFunc]) :: xblk ba0_1c0 53 ([.func (.func 20) #[] #[.pointer (some ⟨ba0_1c0vc0, 0, none⟩)]]) :: xblk ba0_1c0vc0 25 ([.slice Aa0_1c0vc0v_0 a0_1c0vc0v.To.length ca0_1c0vc0v_0, .int .u64 a0_1c0vc0v.Ends, .bool a0_1c0vc0v.Odd, .int .i64 a0_1c0vc0v.Holes]) :: fs) w := hC
     refine does_make (enc := encB) (t := 41) (e := 4) (sz := 1) (bytes := 1) (info := infoOf Try.prog 4) (x := (.tmp 17)) (y := (.tmp 17)) (n := (a1.length : Int)) (kk := .i64) (kc := .i64) (z := .bool false) (x0 := false) hC (by kernel_rfl) (by kernel_rfl) (by kernel_rfl) (by kernel_rfl) (by kernel_rfl) (by kernel_rfl) (by kernel_rfl) (by kernel_rfl) (by kernel_rfl) len_encB (by omega) g9 (by omega) ?_
     intro A7 w2 h2
     have h2 := h2.pick3
     have h2 := h2.pick3
     have h2 := h2.pick3
     have h2 := h2.pick3
     refine ⟨(none, some A7), rfl, ?_, ?_, .inr rfl, h2⟩
     ·intro m hne; match m, hne with
      | 0, hne => exact rfl
      | 1, hne => exact absurd rfl hne
      | m + 2, _ => exact rfl
     ·intro j hj; match j, hj with
      | 0, hj => exact rfl
      | 1, hj => exact rfl
      | 2, hj => exact rfl
      | 3, hj => exact rfl
      | 4, hj => exact rfl
      | 5, hj => exact absurd (by decide) hj
      | 6, hj => exact rfl
      | 7, hj => exact absurd (by decide) hj
      | j + 8, _ => exact rfl
    ·exact Bool.noConfusion hr
    ·replace hC : St w0 Z (xrow (some ⟨b5, 0, none⟩) 1 9 1 (([a0_0] : List ByteArray).flatMap encS) :: xblk b1 31 ([.string a0_0, cond a0_1 (.func (.func 21) #[] #[.pointer (some ⟨ba0_1c0, 0, none⟩), .pointer (some ⟨ba0_1c0vc0, 0, none⟩)]) .nilFunc, cond a0_2 (.func (.func 22) #[] #[.pointer (some ⟨ba0_1c0, 0, none⟩), .pointer (some ⟨ba0_1c0vc0, 0, none⟩)]) .nilFunc, cond a0_3 (.func (.func 23) #[] #[.pointer (some ⟨ba0_1c0, 0, none⟩), .pointer (some ⟨ba0_1c0vc0, 0, none⟩)]) .nilFunc]) :: xblk ba0_1c0 53 ([.func (.func 20) #[] #[.pointer (some ⟨ba0_1c0vc0, 0, none⟩)]]) :: xblk ba0_1c0vc0 25 ([.slice Aa0_1c0vc0v_0 a0_1c0vc0v.To.length ca0_1c0vc0v_0, .int .u64 a0_1c0vc0v.Ends, .bool a0_1c0vc0v.Odd, .int .i64 a0_1c0vc0v.Holes]) :: fs) w := hC
     refine does_make (enc := encB) (t := 41) (e := 4) (sz := 1) (bytes := 1) (info := infoOf Try.prog 4) (x := (.tmp 17)) (y := (.tmp 17)) (n := (a1.length : Int)) (kk := .i64) (kc := .i64) (z := .bool false) (x0 := false) hC (by kernel_rfl) (by kernel_rfl) (by kernel_rfl) (by kernel_rfl) (by kernel_rfl) (by kernel_rfl) (by kernel_rfl) (by kernel_rfl) (by kernel_rfl) len_encB (by omega) g9 (by omega) ?_
     intro A7 w2 h2
     have h2 := h2.pick4
     have h2 := h2.pick4
     have h2 := h2.pick4
     have h2 := h2.pick4
     have h2 := h2.pick4
     refine ⟨(some b5, some A7), rfl, ?_, ?_, .inr rfl, h2⟩
     ·intro m hne; match m, hne with
      | 0, hne => exact rfl
      | 1, hne => exact absurd rfl hne
      | m + 2, _ => exact rfl
     ·intro j hj; match j, hj with
      | 0, hj => exact rfl
      | 1, hj => exact rfl
      | 2, hj => exact rfl
      | 3, hj => exact rfl
      | 4, hj => exact rfl
      | 5, hj => exact absurd (by decide) hj
      | 6, hj => exact rfl
      | 7, hj => exact absurd (by decide) hj
      | j + 8, _ => exact rfl
    ·exact Bool.noConfusion hr
   | k + 2, hk => exact absurd hk (by simp)
  intro st14 w11 hS12 hr13
  rcases st14 with ⟨_ | b5, _ | A7⟩
  ·exact Bool.noConfusion (hr13 0 (Nat.lt_of_sub_eq_succ rfl))
  ·exact Bool.noConfusion (hr13 0 (Nat.lt_of_sub_eq_succ rfl))
  ·exact Bool.noConfusion (hr13 1 (Nat.lt_of_sub_eq_succ rfl))
  replace hS12 : St w0 Z (xrow A7 ((a1.length : Int).toNat) 4 1 ((List.replicate (a1.length : Int).toNat false).flatMap encB) :: xrow (some ⟨b5, 0, none⟩) 1 9 1 (([a0_0] : List ByteArray).flatMap encS) :: xblk b1 31 ([.string a0_0, cond a0_1 (.func (.func 21) #[] #[.pointer (some ⟨ba0_1c0, 0, none⟩), .pointer (some ⟨ba0_1c0vc0, 0, none⟩)]) .nilFunc, cond a0_2 (.func (.func 22) #[] #[.pointer (some ⟨ba0_1c0, 0, none⟩), .pointer (some ⟨ba0_1c0vc0, 0, none⟩)]) .nilFunc, cond a0_3 (.func (.func 23) #[] #[.pointer (some ⟨ba0_1c0, 0, none⟩), .pointer (some ⟨ba0_1c0vc0, 0, none⟩)]) .nilFunc]) :: xblk ba0_1c0 53 ([.func (.func 20) #[] #[.pointer (some ⟨ba0_1c0vc0, 0, none⟩)]]) :: xblk ba0_1c0vc0 25 ([.slice Aa0_1c0vc0v_0 a0_1c0vc0v.To.length ca0_1c0vc0v_0, .int .u64 a0_1c0vc0v.Ends, .bool a0_1c0vc0v.Odd, .int .i64 a0_1c0vc0v.Holes]) :: fs) w11 := hS12
  refine sx_run 3 (todo' := [.inRegion (opsOf (cd10 [1, 1, 0])) [1, 2], .code (cd10 [1, 1, 1])]) (us := [(19, .pointer (some ⟨b1, 0, none⟩))]) (by kernel_rfl) ?_
  refine r_load (c := (cd10 [1, 1, 0])) (i := 1) (d := (some 20)) (ty := 9) (t := 9) (x := (.tmp 19)) (p := ⟨b1, 0, none⟩) (v := .string a0_0) (by kernel_rfl) (by kernel_rfl) (by kernel_rfl) (loads_at 0 (hS12.blk 2 rfl) (by kernel_rfl) (by kernel_rfl)) ?_
  refine sx_run 11 (todo' := [.code (cd10 [1, 1, 1, 0, 1, 0, 0]), .inLoop (cd10 [1, 1, 1, 0, 1, 0, 0]), .inBlock 0, .code (cd10 [1, 1, 1, 1])]) (us := [(8, .string a0_0), (21, .slice Aa1 a1.length ca1), (22, .int .i64 (a1.length : Int)), (23, .int .i64 0)]) (by kernel_rfl) ?_
  obtain ⟨v15, hv16, hp17⟩ := bind_some' hp10
  have J25 : ∀ (t18 : List ByteArray) (t22 : List Bool) (he27 : (t18, t22) = v15) (l26 : List Value) (A19 : Option Addr) (c20 : Nat) (w23 : World) (hS24 : St w0 Z (xrow A19 c20 9 1 (t18.flatMap encS) :: xrow A7 ((a1.length : Int).toNat) 4 1 (t22.flatMap encB) :: xblk ba0_1c0 53 ([.func (.func 20) #[] #[.pointer (some ⟨ba0_1c0vc0, 0, none⟩)]]) :: xblk ba0_1c0vc0 25 ([.slice Aa0_1c0vc0v_0 a0_1c0vc0v.To.length ca0_1c0vc0v_0, .int .u64 a0_1c0vc0v.Ends, .bool a0_1c0vc0v.Odd, .int .i64 a0_1c0vc0v.Holes]) :: fs) w23), Runs Try.prog 10 [.code (cd10 [1, 1, 1, 1])] (fill [none, none, none, none, none, none, some (.slice A19 t18.length c20), some (.slice A7 t22.length ((a1.length : Int).toNat)), none, none, none, none, none, none, none, none, none, none, none, none, none, none, none, none, none, none, none, none, none, none, none, none, none, none, none, none, none, none, none, none, none, none, none, none, none, none, none] l26) w23 R := by
   intro t18 t22 he27 l26 A19 c20 w23 hS24
   subst he27
   try dsimp only at hp17
   refine sx_run 7 (todo' := [.code (cd10 [1, 1, 1, 1, 1])]) (us := [(45, .slice A19 t18.length c20), (46, .slice A7 t22.length ((a1.length : Int).toNat)), (4, .slice A19 t18.length c20), (5, .slice A7 t22.length ((a1.length : Int).toNat))]) (by kernel_rfl) ?_
   refine runs_ret (fn := Try.f10) (v := .tuple #[.slice A19 t18.length c20, .slice A7 t22.length ((a1.length : Int).toNat)]) Try.func10 (by kernel_rfl) ?_
   have hr28 := (Option.some.inj hp17)
   cases hr28
   exact hR _ _ ⟨A19, c20, A7, (a1.length : Int).toNat, rfl, hS24⟩
  have L44 : ∀ (t29 : List ByteArray) (t33 : ByteArray) (t34 : Int) (t35 : List Bool) (e39 : ((List ByteArray) × (List Bool))), script_Replay.l0 a0_0 a0_1 a0_1c0vc0v a0_2 a0_3 a1 t29 t33 t34 t35 = some e39 → e39 = v15 → ∀ (l38 : List Value) (A30 : Option Addr) (c31 : Nat) (w36 : World) (hS37 : St w0 Z (xblk b1 31 ([.string a0_0, cond a0_1 (.func (.func 21) #[] #[.pointer (some ⟨ba0_1c0, 0, none⟩), .pointer (some ⟨ba0_1c0vc0, 0, none⟩)]) .nilFunc, cond a0_2 (.func (.func 22) #[] #[.pointer (some ⟨ba0_1c0, 0, none⟩), .pointer (some ⟨ba0_1c0vc0, 0, none⟩)]) .nilFunc, cond a0_3 (.func (.func 23) #[] #[.pointer (some ⟨ba0_1c0, 0, none⟩), .pointer (some ⟨ba0_1c0vc0, 0, none⟩)]) .nilFunc]) :: xblk ba0_1c0 53 ([.func (.func 20) #[] #[.pointer (some ⟨ba0_1c0vc0, 0, none⟩)]]) :: xblk ba0_1c0vc0 25 ([.slice Aa0_1c0vc0v_0 a0_1c0vc0v.To.length ca0_1c0vc0v_0, .int .u64 a0_1c0vc0v.Ends, .bool a0_1c0vc0v.Odd, .int .i64 a0_1c0vc0v.Holes]) :: xrow A30 c31 9 1 (t29.flatMap encS) :: xrow A7 ((a1.length : Int).toNat) 4 1 (t35.flatMap encB) :: fs) w36), Runs Try.prog 10 [.code (cd10 [1, 1, 1, 0, 1, 0, 0]), .inLoop (cd10 [1, 1, 1, 0, 1, 0, 0]), .inBlock 0, .code (cd10 [1, 1, 1, 1])] (fill [none, none, some (.pointer (some ⟨b1, 0, none⟩)), none, none, none, some (.slice A30 t29.length c31), some (.slice A7 t35.length ((a1.length : Int).toNat)), some (.string t33), none, none, none, none, none, none, none, none, none, none, none, none, some (.slice Aa1 a1.length ca1), some (.int .i64 (a1.length : Int)), some (.int .i64 t34), none, none, none, none, none, none, none, none, none, none, none, none, none, none, none, none, none, none, none, none, none, none, none] l38) w36 R := by
   refine script_Replay.l0.partial_correctness a0_0 a0_1 a0_1c0vc0v a0_2 a0_3 a1 (fun t29 t33 t34 t35 e39 => e39 = v15 → ∀ (l38 : List Value) (A30 : Option Addr) (c31 : Nat) (w36 : World) (hS37 : St w0 Z (xblk b1 31 ([.string a0_0, cond a0_1 (.func (.func 21) #[] #[.pointer (some ⟨ba0_1c0, 0, none⟩), .pointer (some ⟨ba0_1c0vc0, 0, none⟩)]) .nilFunc, cond a0_2 (.func (.func 22) #[] #[.pointer (some ⟨ba0_1c0, 0, none⟩), .pointer (some ⟨ba0_1c0vc0, 0, none⟩)]) .nilFunc, cond a0_3 (.func (.func 23) #[] #[.pointer (some ⟨ba0_1c0, 0, none⟩), .pointer (some ⟨ba0_1c0vc0, 0, none⟩)]) .nilFunc]) :: xblk ba0_1c0 53 ([.func (.func 20) #[] #[.pointer (some ⟨ba0_1c0vc0, 0, none⟩)]]) :: xblk ba0_1c0vc0 25 ([.slice Aa0_1c0vc0v_0 a0_1c0vc0v.To.length ca0_1c0vc0v_0, .int .u64 a0_1c0vc0v.Ends, .bool a0_1c0vc0v.Odd, .int .i64 a0_1c0vc0v.Holes]) :: xrow A30 c31 9 1 (t29.flatMap encS) :: xrow A7 ((a1.length : Int).toNat) 4 1 (t35.flatMap encB) :: fs) w36), Runs Try.prog 10 [.code (cd10 [1, 1, 1, 0, 1, 0, 0]), .inLoop (cd10 [1, 1, 1, 0, 1, 0, 0]), .inBlock 0, .code (cd10 [1, 1, 1, 1])] (fill [none, none, some (.pointer (some ⟨b1, 0, none⟩)), none, none, none, some (.slice A30 t29.length c31), some (.slice A7 t35.length ((a1.length : Int).toNat)), some (.string t33), none, none, none, none, none, none, none, none, none, none, none, none, some (.slice Aa1 a1.length ca1), some (.int .i64 (a1.length : Int)), some (.int .i64 t34), none, none, none, none, none, none, none, none, none, none, none, none, none, none, none, none, none, none, none, none, none, none, none] l38) w36 R) ?_
   intro rec43 ih42 t29 t33 t34 t35 e39 hb41 he40 l38 A30 c31 w36 hS37
   refine sx_split 3 (todo' := [.inRegion (opsOf (cd10 [1, 1, 1, 0, 1, 0, 0, 0])) [], .code (cd10 [1, 1, 1, 0, 1, 0, 0, 1]), .inLoop (cd10 [1, 1, 1, 0, 1, 0, 0]), .inBlock 0, .code (cd10 [1, 1, 1, 1])]) (us := []) (d := 24) (t := (decide (t34 < (a1.length : Int)))) (by kernel_rfl) (fun h45 => ?_) (fun h46 => ?_)
   ·skip
    have hp47 := ite_t hb41 h45
    refine sx_run 9 (todo' := [.inRegion (opsOf (cd10 [1, 1, 1, 0, 1, 0, 0, 1, 1, 0, 0, 0])) [1, 2, 3, 4, 5], .code (cd10 [1, 1, 1, 0, 1, 0, 0, 1, 1, 0, 0, 1]), .inBlock 1, .code (cd10 [1, 1, 1, 0, 1, 0, 0, 1, 1, 1]), .inLoop (cd10 [1, 1, 1, 0, 1, 0, 0]), .inBlock 0, .code (cd10 [1, 1, 1, 1])]) (us := [(25, .int .i64 t34)]) (by kernel_rfl) ?_
    obtain ⟨g48, hp49⟩ := ite_some hp47
    obtain ⟨b50, p51, hA52, hc53⟩ := ha1.atF g48.1 g48.2
    refine r_indexAddr (c := (cd10 [1, 1, 1, 0, 1, 0, 0, 1, 1, 0, 0, 0])) (i := 1) (d := (some 26)) (ty := 0) (t := 33) (e := 39) (n := a1.length) (cp := ca1) (sz := 3) (kk := .i64) (x := (.tmp 21)) (y := (.tmp 23)) (b := b50) (o' := p51) (j := t34) (by kernel_rfl) (by kernel_rfl) (slv (by kernel_rfl) hA52) (by kernel_rfl) (by kernel_rfl) (by kernel_rfl) g48.1 g48.2 ?_
    refine r_load (c := (cd10 [1, 1, 1, 0, 1, 0, 0, 1, 1, 0, 0, 0])) (i := 2) (d := (some 27)) (ty := 39) (t := 39) (x := (.tmp 26)) (p := ⟨b50, p51 + t34.toNat * 3, none⟩) (v := .agg (enc_api_Pick (gt a1 t34)).toArray) (by kernel_rfl) (by kernel_rfl) (by kernel_rfl) (loads_agg (hc53.cells hS37) (by kernel_rfl) (by kernel_rfl)) ?_
    refine r_alloc (c := (cd10 [1, 1, 1, 0, 1, 0, 0, 1, 1, 0, 0, 0])) (i := 3) (d := (some 10)) (ty := 0) (z := .agg (enc_api_Pick (⟨0, 0, 0⟩ : api_Pick)).toArray) (t := 39) (cs := enc_api_Pick (⟨0, 0, 0⟩ : api_Pick)) hS37 (by kernel_rfl) (by kernel_rfl) (by kernel_rfl) (by kernel_rfl) ?_
    intro b54 w55 hS56
    refine sx_run 1 (todo' := [.inRegion (opsOf (cd10 [1, 1, 1, 0, 1, 0, 0, 1, 1, 0, 0, 0])) [5], .code (cd10 [1, 1, 1, 0, 1, 0, 0, 1, 1, 0, 0, 1]), .inBlock 1, .code (cd10 [1, 1, 1, 0, 1, 0, 0, 1, 1, 1]), .inLoop (cd10 [1, 1, 1, 0, 1, 0, 0]), .inBlock 0, .code (cd10 [1, 1, 1, 1])]) (us := [(9, .int .i64 t34)]) (by kernel_rfl) ?_
    refine r_store (c := (cd10 [1, 1, 1, 0, 1, 0, 0, 1, 1, 0, 0, 0])) (i := 5) (d := none) (ty := 0) (t := 39) (x := (.tmp 10)) (y := (.tmp 27)) (b := b54) (o := 0) (e := 39) (cs := enc_api_Pick (⟨0, 0, 0⟩ : api_Pick)) (v := .agg (enc_api_Pick (gt a1 t34)).toArray) (vs := enc_api_Pick (gt a1 t34)) (cs' := enc_api_Pick (gt a1 t34)) hS56 (by kernel_rfl) (by kernel_rfl) (by kernel_rfl) (by kernel_rfl) (by kernel_rfl) (by kernel_rfl) (one_api_Pick _) (Nat.le_of_ble_eq_true (by kernel_rfl)) (by kernel_rfl) ?_
    intro w58 hS59
    refine sx_run 4 (todo' := [.inRegion (opsOf (cd10 [1, 1, 1, 0, 1, 0, 0, 1, 1, 0, 0, 1, 0, 0])) [0, 1, 2, 3, 4, 5, 6, 7, 8], .code (cd10 [1, 1, 1, 0, 1, 0, 0, 1, 1, 0, 0, 1, 0, 1]), .code (cd10 [1, 1, 1, 0, 1, 0, 0, 1, 1, 0, 0, 1, 1]), .inBlock 1, .code (cd10 [1, 1, 1, 0, 1, 0, 0, 1, 1, 1]), .inLoop (cd10 [1, 1, 1, 0, 1, 0, 0]), .inBlock 0, .code (cd10 [1, 1, 1, 1])]) (us := []) (by kernel_rfl) ?_
    refine r_load (c := (cd10 [1, 1, 1, 0, 1, 0, 0, 1, 1, 0, 0, 1, 0, 0])) (i := 0) (d := (some 29)) (ty := 31) (t := 31) (x := (.tmp 2)) (p := ⟨b1, 0, none⟩) (v := .agg #[.string a0_0, cond a0_1 (.func (.func 21) #[] #[.pointer (some ⟨ba0_1c0, 0, none⟩), .pointer (some ⟨ba0_1c0vc0, 0, none⟩)]) .nilFunc, cond a0_2 (.func (.func 22) #[] #[.pointer (some ⟨ba0_1c0, 0, none⟩), .pointer (some ⟨ba0_1c0vc0, 0, none⟩)]) .nilFunc, cond a0_3 (.func (.func 23) #[] #[.pointer (some ⟨ba0_1c0, 0, none⟩), .pointer (some ⟨ba0_1c0vc0, 0, none⟩)]) .nilFunc]) (by kernel_rfl) (by kernel_rfl) (by kernel_rfl) (loads_agg (hS59.blk 1 rfl) (by kernel_rfl) (by kernel_rfl)) ?_
    refine sx_run 1 (todo' := [.inRegion (opsOf (cd10 [1, 1, 1, 0, 1, 0, 0, 1, 1, 0, 0, 1, 0, 0])) [2, 3, 4, 5, 6, 7, 8], .code (cd10 [1, 1, 1, 0, 1, 0, 0, 1, 1, 0, 0, 1, 0, 1]), .code (cd10 [1, 1, 1, 0, 1, 0, 0, 1, 1, 0, 0, 1, 1]), .inBlock 1, .code (cd10 [1, 1, 1, 0, 1, 0, 0, 1, 1, 1]), .inLoop (cd10 [1, 1, 1, 0, 1, 0, 0]), .inBlock 0, .code (cd10 [1, 1, 1, 1])]) (us := [(30, .string t33)]) (by kernel_rfl) ?_
    refine r_load (c := (cd10 [1, 1, 1, 0, 1, 0, 0, 1, 1, 0, 0, 1, 0, 0])) (i := 2) (d := (some 31)) (ty := 39) (t := 39) (x := (.tmp 10)) (p := ⟨b54, 0, none⟩) (v := .agg (enc_api_Pick (gt a1 t34)).toArray) (by kernel_rfl) (by kernel_rfl) (by kernel_rfl) (loads_agg (hS59.blk 0 rfl) (by kernel_rfl) (by kernel_rfl)) ?_
    obtain ⟨⟨t60, t61⟩, hr62, hp63⟩ := bind_some' hp49
    try dsimp only at hp63
    have hS65 := hS59.pick3
    have hS66 := hS65.pick3
    refine r_call1 (c := (cd10 [1, 1, 1, 0, 1, 0, 0, 1, 1, 0, 0, 1, 0, 0])) (i := 3) (d := (some 32)) (g := 24) (args := #[.agg #[.string a0_0, cond a0_1 (.func (.func 21) #[] #[.pointer (some ⟨ba0_1c0, 0, none⟩), .pointer (some ⟨ba0_1c0vc0, 0, none⟩)]) .nilFunc, cond a0_2 (.func (.func 22) #[] #[.pointer (some ⟨ba0_1c0, 0, none⟩), .pointer (some ⟨ba0_1c0vc0, 0, none⟩)]) .nilFunc, cond a0_3 (.func (.func 23) #[] #[.pointer (some ⟨ba0_1c0, 0, none⟩), .pointer (some ⟨ba0_1c0vc0, 0, none⟩)]) .nilFunc], .string t33, .agg (enc_api_Pick (gt a1 t34)).toArray]) (by kernel_rfl) (by kernel_rfl) (by kernel_rfl) (by kernel_rfl) (script_step.ok a0_0 a0_1 (⟨a0_1c0vc0v.To, a0_1c0vc0v.Ends, a0_1c0vc0v.Odd, a0_1c0vc0v.Holes⟩ : weirlaw15_Graph) a0_2 a0_3 t33 (gt a1 t34) ba0_1c0 ba0_1c0vc0 Aa0_1c0vc0v_0 ca0_1c0vc0v_0 hS66 ha0_1c0vc0v_0 hr62) ?_
    rintro _ w67 ⟨rfl, hS68⟩
    refine ⟨.tuple #[.string t60, .bool t61], rfl, ?_⟩
    refine sx_run 10 (todo' := [.code (cd10 [1, 1, 1, 0, 1, 0, 0, 1, 1, 0, 0, 1, 0, 1, 1]), .code (cd10 [1, 1, 1, 0, 1, 0, 0, 1, 1, 0, 0, 1, 1]), .inBlock 1, .code (cd10 [1, 1, 1, 0, 1, 0, 0, 1, 1, 1]), .inLoop (cd10 [1, 1, 1, 0, 1, 0, 0]), .inBlock 0, .code (cd10 [1, 1, 1, 1])]) (us := [(28, .tuple #[.string t60, .bool t61]), (33, .string t60), (34, .bool t61), (11, .string t60), (12, .bool t61), (35, .bool t61)]) (by kernel_rfl) ?_
    obtain ⟨v69, hv70, hp71⟩ := bind_some' hp63
    have J76 : ∀ (t72 : ByteArray) (t73 : List Bool) (he78 : (t72, t73) = v69) (l77 : List Value) (w74 : World) (hS75 : St w0 Z (xblk b1 31 ([.string a0_0, cond a0_1 (.func (.func 21) #[] #[.pointer (some ⟨ba0_1c0, 0, none⟩), .pointer (some ⟨ba0_1c0vc0, 0, none⟩)]) .nilFunc, cond a0_2 (.func (.func 22) #[] #[.pointer (some ⟨ba0_1c0, 0, none⟩), .pointer (some ⟨ba0_1c0vc0, 0, none⟩)]) .nilFunc, cond a0_3 (.func (.func 23) #[] #[.pointer (some ⟨ba0_1c0, 0, none⟩), .pointer (some ⟨ba0_1c0vc0, 0, none⟩)]) .nilFunc]) :: xblk ba0_1c0 53 ([.func (.func 20) #[] #[.pointer (some ⟨ba0_1c0vc0, 0, none⟩)]]) :: xblk ba0_1c0vc0 25 ([.slice Aa0_1c0vc0v_0 a0_1c0vc0v.To.length ca0_1c0vc0v_0, .int .u64 a0_1c0vc0v.Ends, .bool a0_1c0vc0v.Odd, .int .i64 a0_1c0vc0v.Holes]) :: xrow A30 c31 9 1 (t29.flatMap encS) :: xrow A7 ((a1.length : Int).toNat) 4 1 (t73.flatMap encB) :: fs) w74), Runs Try.prog 10 [.code (cd10 [1, 1, 1, 0, 1, 0, 0, 1, 1, 0, 0, 1, 1]), .inBlock 1, .code (cd10 [1, 1, 1, 0, 1, 0, 0, 1, 1, 1]), .inLoop (cd10 [1, 1, 1, 0, 1, 0, 0]), .inBlock 0, .code (cd10 [1, 1, 1, 1])] (fill [none, none, some (.pointer (some ⟨b1, 0, none⟩)), none, none, none, some (.slice A30 t29.length c31), some (.slice A7 t73.length ((a1.length : Int).toNat)), some (.string t72), none, none, none, none, none, none, none, none, none, none, none, none, some (.slice Aa1 a1.length ca1), some (.int .i64 (a1.length : Int)), some (.int .i64 t34), none, none, none, none, none, none, none, none, none, none, none, none, none, none, none, none, none, none, none, none, none, none, none] l77) w74 R := by
     intro t72 t73 he78 l77 w74 hS75
     subst he78
     try dsimp only at hp71
     refine sx_run 3 (todo' := [.inRegion (opsOf (cd10 [1, 1, 1, 0, 1, 0, 0, 1, 1, 0, 0, 1, 1])) [2, 3, 4], .inBlock 1, .code (cd10 [1, 1, 1, 0, 1, 0, 0, 1, 1, 1]), .inLoop (cd10 [1, 1, 1, 0, 1, 0, 0]), .inBlock 0, .code (cd10 [1, 1, 1, 1])]) (us := [(40, .slice A30 t29.length c31), (41, .string t72)]) (by kernel_rfl) ?_
     refine r_lit (c := (cd10 [1, 1, 1, 0, 1, 0, 0, 1, 1, 0, 0, 1, 1])) (i := 2) (d := (some 42)) (ty := 40) (t := 40) (e := 9) (sz := 1) (n := 1) (parts := #[(0, (.tmp 41))]) (vs := [(0, .string t72)]) (z := zeroOf Try.prog 9) (cs' := ([t72] : List ByteArray).flatMap encS) hS75 (by kernel_rfl) (by kernel_rfl) (by kernel_rfl) (by kernel_rfl) (by kernel_rfl) (by decide) (by decide) (by kernel_rfl) rfl (Parts.cons (c := [.string t72]) (by kernel_rfl) rfl Parts.nil) rfl ?_
     intro b80 w81 hS82
     have hS83 := hS82.pick4
     obtain ⟨g84, hp85⟩ := ite_some hp71
     refine r_append (c := (cd10 [1, 1, 1, 0, 1, 0, 0, 1, 1, 0, 0, 1, 1])) (i := 3) (d := (some 43)) (ty := 40) (enc := encS) (e := 9) (u := 9) (t := 40) (t2 := 40) (sz := 1) (cp := c31) (A := A30) (bytes := 16) (xs := t29) (ys := ([t72] : List ByteArray)) (s := (.tmp 40)) (x := (.tmp 42)) (xv := .slice (some ⟨b80, 0, none⟩) ([t72] : List ByteArray).length 1) (info := infoOf Try.prog 9) (z := zeroOf Try.prog 9) (ycs := ([t72] : List ByteArray).flatMap encS) hS83 (by kernel_rfl) (by kernel_rfl) (by kernel_rfl) (by kernel_rfl) (by kernel_rfl) (.inl (by kernel_rfl)) (by kernel_rfl) (by kernel_rfl) (by kernel_rfl) (by kernel_rfl) (by kernel_rfl) (by omega) len_encS one_encS (src_row (hS83.row 1 rfl) (by omega) len_encS) rfl g84 (by omega) ?_
     intro A86 c87 w88 hS89
     refine sx_run 7 (todo' := [.inLoop (cd10 [1, 1, 1, 0, 1, 0, 0]), .inBlock 0, .code (cd10 [1, 1, 1, 1])]) (us := [(6, .slice A86 (t29 ++ ([t72] : List ByteArray)).length c87), (44, .int .i64 (IntKind.i64.wrap (t34 + 1))), (23, .int .i64 (IntKind.i64.wrap (t34 + 1)))]) (by kernel_rfl) ?_
     have hS91 := hS89.pick1
     have hS92 := hS91.drop
     have hS93 := hS92.pick4
     have hS94 := hS93.pick1
     have hS95 := hS94.pick4
     have hS96 := hS95.pick4
     have hS97 := hS96.pick4
     refine sx_run 1 (todo' := [.code (cd10 [1, 1, 1, 0, 1, 0, 0]), .inLoop (cd10 [1, 1, 1, 0, 1, 0, 0]), .inBlock 0, .code (cd10 [1, 1, 1, 1])]) (us := []) (by kernel_rfl) ?_
     refine Runs.fill (m := [none, none, some (.pointer (some ⟨b1, 0, none⟩)), none, none, none, some (.slice A86 (t29 ++ ([t72] : List ByteArray)).length c87), some (.slice A7 t73.length ((a1.length : Int).toNat)), some (.string t72), none, none, none, none, none, none, none, none, none, none, none, none, some (.slice Aa1 a1.length ca1), some (.int .i64 (a1.length : Int)), some (.int .i64 (IntKind.i64.wrap (t34 + 1))), none, none, none, none, none, none, none, none, none, none, none, none, none, none, none, none, none, none, none, none, none, none, none]) (by kernel_rfl) ?_
     exact ih42 (t29 ++ ([t72] : List ByteArray)) t72 (IntKind.i64.wrap (t34 + 1)) t73 _ hp85 he40 _ A86 c87 _ hS97
    cases t61
    ·skip
     have hp98 := ite_f hv70 rfl
     refine sx_run 2 (todo' := [.code (cd10 [1, 1, 1, 0, 1, 0, 0, 1, 1, 0, 0, 1, 1]), .inBlock 1, .code (cd10 [1, 1, 1, 0, 1, 0, 0, 1, 1, 1]), .inLoop (cd10 [1, 1, 1, 0, 1, 0, 0]), .inBlock 0, .code (cd10 [1, 1, 1, 1])]) (us := []) (by kernel_rfl) ?_
     have hS99 := hS68.pick2
     have hS100 := hS99.drop
     have hS101 := hS100.pick4
     have hS102 := hS101.pick4
     have hS103 := hS102.pick3
     have hS104 := hS103.pick3
     have hS105 := hS104.pick4
     refine Runs.fill (m := [none, none, some (.pointer (some ⟨b1, 0, none⟩)), none, none, none, some (.slice A30 t29.length c31), some (.slice A7 t35.length ((a1.length : Int).toNat)), some (.string t33), none, none, none, none, none, none, none, none, none, none, none, none, some (.slice Aa1 a1.length ca1), some (.int .i64 (a1.length : Int)), some (.int .i64 t34), none, none, none, none, none, none, none, none, none, none, none, none, none, none, none, none, none, none, none, none, none, none, none]) (by kernel_rfl) ?_
     exact J76 t33 t35 (Option.some.inj hp98) _ _ hS105
    ·skip
     have hp106 := ite_t hv70 rfl
     refine sx_run 6 (todo' := [.inRegion (opsOf (cd10 [1, 1, 1, 0, 1, 0, 0, 1, 1, 0, 0, 1, 0, 1, 1, 0])) [4, 5], .code (cd10 [1, 1, 1, 0, 1, 0, 0, 1, 1, 0, 0, 1, 1]), .inBlock 1, .code (cd10 [1, 1, 1, 0, 1, 0, 0, 1, 1, 1]), .inLoop (cd10 [1, 1, 1, 0, 1, 0, 0]), .inBlock 0, .code (cd10 [1, 1, 1, 1])]) (us := [(36, .slice A7 t35.length ((a1.length : Int).toNat)), (37, .int .i64 t34), (38, .string t60), (8, .string t60)]) (by kernel_rfl) ?_
     obtain ⟨g107, hp108⟩ := ite_some hp106
     obtain ⟨b109, p110, hA111, -⟩ := (hS68.row 5 rfl).at_ len_encB (by omega) g107.1 g107.2
     refine r_indexAddr (c := (cd10 [1, 1, 1, 0, 1, 0, 0, 1, 1, 0, 0, 1, 0, 1, 1, 0])) (i := 4) (d := (some 39)) (ty := 0) (t := 41) (e := 4) (n := t35.length) (cp := (a1.length : Int).toNat) (sz := 1) (kk := .i64) (x := (.tmp 36)) (y := (.tmp 37)) (b := b109) (o' := p110) (j := t34) (by kernel_rfl) (by kernel_rfl) (slv (by kernel_rfl) hA111) (by kernel_rfl) (by kernel_rfl) (by kernel_rfl) g107.1 g107.2 ?_
     have hS113 := hS68.pick5
     refine r_storeEl (c := (cd10 [1, 1, 1, 0, 1, 0, 0, 1, 1, 0, 0, 1, 0, 1, 1, 0])) (i := 5) (d := none) (ty := 0) (enc := encB) (e := 4) (t := 4) (sz := 1) (cp := (a1.length : Int).toNat) (A := A7) (xs := t35) (x := (.tmp 39)) (y := (.const (.bool true))) (el := gt t35 t34) (el' := true) (j := t34) (off := 0) (b := b109) (p := p110) (v := .bool true) (vs := [.bool true]) (ad := ⟨b109, p110 + t34.toNat * 1, none⟩) hS113 (by kernel_rfl) (by kernel_rfl) (by kernel_rfl) (by simp) (by kernel_rfl) hA111 g107 rfl len_encB (by kernel_rfl) (by kernel_rfl) (by kernel_rfl) (Nat.le_of_ble_eq_true (by kernel_rfl)) (Nat.le_of_ble_eq_true (by kernel_rfl)) (by kernel_rfl) ?_
     intro w114 hS115
     refine Runs.fill (m := [none, none, none, none, none, none, none, some (.slice A7 t35.length ((a1.length : Int).toNat)), none, none, none, none, none, none, none, none, none, none, none, none, none, none, none, none, none, none, none, none, none, none, none, none, none, none, none, none, some (.slice A7 t35.length ((a1.length : Int).toNat)), none, none, none, none, none, none, none, none, none, none]) (by kernel_rfl) ?_
     refine Runs.refill (m' := [none, none, none, none, none, none, none, some (.slice A7 (setl t35 t34 true).length ((a1.length : Int).toNat)), none, none, none, none, none, none, none, none, none, none, none, none, none, none, none, none, none, none, none, none, none, none, none, none, none, none, none, none, some (.slice A7 (setl t35 t34 true).length ((a1.length : Int).toNat)), none, none, none, none, none, none, none, none, none, none]) (by simp only [setl_len]) ?_
     refine sx_run 1 (todo' := [.code (cd10 [1, 1, 1, 0, 1, 0, 0, 1, 1, 0, 0, 1, 1]), .inBlock 1, .code (cd10 [1, 1, 1, 0, 1, 0, 0, 1, 1, 1]), .inLoop (cd10 [1, 1, 1, 0, 1, 0, 0]), .inBlock 0, .code (cd10 [1, 1, 1, 1])]) (us := []) (by kernel_rfl) ?_
     have hS116 := hS115.pick3
     have hS117 := hS116.drop
     have hS118 := hS117.pick4
     have hS119 := hS118.pick3
     have hS120 := hS119.pick3
     have hS121 := hS120.pick4
     refine Runs.fill (m := [none, none, some (.pointer (some ⟨b1, 0, none⟩)), none, none, none, some (.slice A30 t29.length c31), some (.slice A7 (setl t35 t34 true).length ((a1.length : Int).toNat)), some (.string t60), none, none, none, none, none, none, none, none, none, none, none, none, some (.slice Aa1 a1.length ca1), some (.int .i64 (a1.length : Int)), some (.int .i64 t34), none, none, none, none, none, none, none, none, none, none, none, none, none, none, none, none, none, none, none, none, none, none, none]) (by kernel_rfl) ?_
     exact J76 t60 (setl t35 t34 true) (Option.some.inj hp108) _ _ hS121
   ·skip
    have hp122 := ite_f hb41 h46
    refine sx_run 4 (todo' := [.code (cd10 [1, 1, 1, 1])]) (us := []) (by kernel_rfl) ?_
    have hS123 := hS37.drop
    have hS124 := hS123.pick1
    have hS125 := hS124.pick1
    have hS126 := hS125.pick3
    have hS127 := hS126.pick3
    refine Runs.fill (m := [none, none, none, none, none, none, some (.slice A30 t29.length c31), some (.slice A7 t35.length ((a1.length : Int).toNat)), none, none, none, none, none, none, none, none, none, none, none, none, none, none, none, none, none, none, none, none, none, none, none, none, none, none, none, none, none, none, none, none, none, none, none, none, none, none, none]) (by kernel_rfl) ?_
    exact J25 t29 t35 ((Option.some.inj hp122).trans he40) _ A30 c31 _ hS127
  have hS128 := hS12.pick1
  have hS129 := hS128.pick4
  have hS130 := hS129.pick4
  have hS131 := hS130.pick4
  refine Runs.fill (m := [none, none, some (.pointer (some ⟨b1, 0, none⟩)), none, none, none, some (.slice (some ⟨b5, 0, none⟩) ([a0_0] : List ByteArray).length 1), some (.slice A7 (List.replicate (a1.length : Int).toNat false).length ((a1.length : Int).toNat)), some (.string a0_0), none, none, none, none, none, none, none, none, none, none, none, none, some (.slice Aa1 a1.length ca1), some (.int .i64 (a1.length : Int)), some (.int .i64 0), none, none, none, none, none, none, none, none, none, none, none, none, none, none, none, none, none, none, none, none, none, none, none]) (by kernel_rfl) ?_
  exact L44 ([a0_0] : List ByteArray) a0_0 0 (List.replicate (a1.length : Int).toNat false) _ hv16 rfl _ (some ⟨b5, 0, none⟩) 1 _ hS131

noncomputable def cd26 (p : List Nat) : Code := sub (bodyOf Try.f26) p
def weirref15_step.f (a0_0 : ByteArray) (a0_1 : Bool) (a0_1c0vc0v : weirlaw15_Graph) (a0_2 : Bool) (a0_3 : Bool) (a1 : ByteArray) (a2 : api_Pick) : Option (ByteArray × Bool) :=
  (if a0_2 = true then (weirlaw15_Graph__Machine_3.f a1 a2 (⟨a0_1c0vc0v.To, a0_1c0vc0v.Ends, a0_1c0vc0v.Odd, a0_1c0vc0v.Holes⟩ : weirlaw15_Graph) >>= (fun (t14, t15) => some ((t14, t15)))) else some (((⟨#[]⟩ : ByteArray), false)))
set_option maxHeartbeats 16000000 in
theorem weirref15_step.ok (a0_0 : ByteArray) (a0_1 : Bool) (a0_1c0vc0v : weirlaw15_Graph) (a0_2 : Bool) (a0_3 : Bool) (a1 : ByteArray) (a2 : api_Pick) (ba0_1c0 : Nat) (ba0_1c0vc0 : Nat) (Aa0_1c0vc0v_0 : Option Addr) (ca0_1c0vc0v_0 : Nat) {w0 : World} {Z : Zm} {fs : List XObj} {w : World} (hS0 : St w0 Z (xblk ba0_1c0 53 ([.func (.func 20) #[] #[.pointer (some ⟨ba0_1c0vc0, 0, none⟩)]]) :: xblk ba0_1c0vc0 25 ([.slice Aa0_1c0vc0v_0 a0_1c0vc0v.To.length ca0_1c0vc0v_0, .int .u64 a0_1c0vc0v.Ends, .bool a0_1c0vc0v.Odd, .int .i64 a0_1c0vc0v.Holes]) :: fs) w) (ha0_1c0vc0v_0 : SlZ (repL (flat (encI .i64)) 1) 1 Z Aa0_1c0vc0v_0 ca0_1c0vc0v_0 a0_1c0vc0v.To) {q0 : ByteArray} {q1 : Bool} (hp0 : weirref15_step.f a0_0 a0_1 a0_1c0vc0v a0_2 a0_3 a1 a2 = some (q0, q1)) :
    Calls Try.prog 26 #[.agg #[.string a0_0, cond a0_1 (.func (.func 21) #[] #[.pointer (some ⟨ba0_1c0, 0, none⟩), .pointer (some ⟨ba0_1c0vc0, 0, none⟩)]) .nilFunc, cond a0_2 (.func (.func 22) #[] #[.pointer (some ⟨ba0_1c0, 0, none⟩), .pointer (some ⟨ba0_1c0vc0, 0, none⟩)]) .nilFunc, cond a0_3 (.func (.func 23) #[] #[.pointer (some ⟨ba0_1c0, 0, none⟩), .pointer (some ⟨ba0_1c0vc0, 0, none⟩)]) .nilFunc], .string a1, .agg (enc_api_Pick a2).toArray] w (fun e w' => e = .returned (.tuple #[.string q0, .bool q1]) ∧ St w0 Z (xblk ba0_1c0 53 ([.func (.func 20) #[] #[.pointer (some ⟨ba0_1c0vc0, 0, none⟩)]]) :: xblk ba0_1c0vc0 25 ([.slice Aa0_1c0vc0v_0 a0_1c0vc0v.To.length ca0_1c0vc0v_0, .int .u64 a0_1c0vc0v.Ends, .bool a0_1c0vc0v.Odd, .int .i64 a0_1c0vc0v.Holes]) :: fs) w') := by
  refine calls_abs ?_; intro R hR
  unfold weirref15_step.f at hp0
  refine calls_of_runs (fn := Try.f26) (c := cd26 []) Try.func26 (by kernel_rfl) (al := [.agg #[.string a0_0, cond a0_1 (.func (.func 21) #[] #[.pointer (some ⟨ba0_1c0, 0, none⟩), .pointer (some ⟨ba0_1c0vc0, 0, none⟩)]) .nilFunc, cond a0_2 (.func (.func 22) #[] #[.pointer (some ⟨ba0_1c0, 0, none⟩), .pointer (some ⟨ba0_1c0vc0, 0, none⟩)]) .nilFunc, cond a0_3 (.func (.func 23) #[] #[.pointer (some ⟨ba0_1c0, 0, none⟩), .pointer (some ⟨ba0_1c0vc0, 0, none⟩)]) .nilFunc], .string a1, .agg (enc_api_Pick a2).toArray]) rfl (n := 15) rfl ?_
  refine sx_run 2 (todo' := [.inRegion (opsOf (cd26 [0])) [0, 1, 2, 3], .code (cd26 [1])]) (us := []) (by kernel_rfl) ?_
  refine r_box (c := (cd26 [0])) (i := 0) (d := (some 3)) (ty := 0) (x := (.tmp 0)) (v := .agg #[.string a0_0, cond a0_1 (.func (.func 21) #[] #[.pointer (some ⟨ba0_1c0, 0, none⟩), .pointer (some ⟨ba0_1c0vc0, 0, none⟩)]) .nilFunc, cond a0_2 (.func (.func 22) #[] #[.pointer (some ⟨ba0_1c0, 0, none⟩), .pointer (some ⟨ba0_1c0vc0, 0, none⟩)]) .nilFunc, cond a0_3 (.func (.func 23) #[] #[.pointer (some ⟨ba0_1c0, 0, none⟩), .pointer (some ⟨ba0_1c0vc0, 0, none⟩)]) .nilFunc]) (t := 31) (cs := [.string a0_0, cond a0_1 (.func (.func 21) #[] #[.pointer (some ⟨ba0_1c0, 0, none⟩), .pointer (some ⟨ba0_1c0vc0, 0, none⟩)]) .nilFunc, cond a0_2 (.func (.func 22) #[] #[.pointer (some ⟨ba0_1c0, 0, none⟩), .pointer (some ⟨ba0_1c0vc0, 0, none⟩)]) .nilFunc, cond a0_3 (.func (.func 23) #[] #[.pointer (some ⟨ba0_1c0, 0, none⟩), .pointer (some ⟨ba0_1c0vc0, 0, none⟩)]) .nilFunc]) hS0 (by kernel_rfl) (by kernel_rfl) (by kernel_rfl) (by kernel_rfl) ?_
  intro b1 w2 hS3
  refine r_box (c := (cd26 [0])) (i := 1) (d := (some 5)) (ty := 0) (x := (.tmp 2)) (v := .agg (enc_api_Pick a2).toArray) (t := 39) (cs := enc_api_Pick a2) hS3 (by kernel_rfl) (by kernel_rfl) (by kernel_rfl) (by kernel_rfl) ?_
  intro b5 w6 hS7
  refine sx_run 7 (todo' := [.inRegion (opsOf (cd26 [1, 0, 0])) [1, 2], .code (cd26 [1, 0, 1]), .code (cd26 [1, 1])]) (us := [(6, .string (⟨#[]⟩ : ByteArray)), (7, .bool false), (8, .pointer (some ⟨b1, 2, none⟩))]) (by kernel_rfl) ?_
  refine r_load (c := (cd26 [1, 0, 0])) (i := 1) (d := (some 9)) (ty := 28) (t := 28) (x := (.tmp 8)) (p := ⟨b1, 2, none⟩) (v := cond a0_2 (.func (.func 22) #[] #[.pointer (some ⟨ba0_1c0, 0, none⟩), .pointer (some ⟨ba0_1c0vc0, 0, none⟩)]) .nilFunc) (by kernel_rfl) (by kernel_rfl) (by kernel_rfl) (loads_at 2 (hS7.blk 1 rfl) (by kernel_rfl) (by kernel_rfl)) ?_
  cases a0_2
  ·skip
   have hp9 := ite_f hp0 rfl
   refine sx_run 8 (todo' := [.code (cd26 [1, 0, 1, 0, 1]), .code (cd26 [1, 1])]) (us := [(10, .bool true), (6, .string (⟨#[]⟩ : ByteArray)), (7, .bool false)]) (by kernel_rfl) ?_
   have hS10 := hS7.drop
   have hS11 := hS10.drop
   refine runs_ret (fn := Try.f26) (v := .tuple #[.string (⟨#[]⟩ : ByteArray), .bool false]) Try.func26 (by kernel_rfl) ?_
   have hr12 := (Option.some.inj hp9)
   cases hr12
   exact hR _ _ ⟨rfl, hS11⟩
  ·skip
   have hp13 := ite_t hp0 rfl
   refine sx_run 7 (todo' := [.inRegion (opsOf (cd26 [1, 1, 0])) [1, 2, 3, 4, 5, 6, 7, 8], .code (cd26 [1, 1, 1])]) (us := [(10, .bool false), (11, .pointer (some ⟨b1, 2, none⟩))]) (by kernel_rfl) ?_
   refine r_load (c := (cd26 [1, 1, 0])) (i := 1) (d := (some 12)) (ty := 28) (t := 28) (x := (.tmp 11)) (p := ⟨b1, 2, none⟩) (v := .func (.func 22) #[] #[.pointer (some ⟨ba0_1c0, 0, none⟩), .pointer (some ⟨ba0_1c0vc0, 0, none⟩)]) (by kernel_rfl) (by kernel_rfl) (by kernel_rfl) (loads_at 2 (hS7.blk 1 rfl) (by kernel_rfl) (by kernel_rfl)) ?_
   refine sx_run 1 (todo' := [.inRegion (opsOf (cd26 [1, 1, 0])) [3, 4, 5, 6, 7, 8], .code (cd26 [1, 1, 1])]) (us := [(13, .string a1)]) (by kernel_rfl) ?_
   refine r_load (c := (cd26 [1, 1, 0])) (i := 3) (d := (some 14)) (ty := 39) (t := 39) (x := (.tmp 5)) (p := ⟨b5, 0, none⟩) (v := .agg (enc_api_Pick a2).toArray) (by kernel_rfl) (by kernel_rfl) (by kernel_rfl) (loads_agg (hS7.blk 0 rfl) (by kernel_rfl) (by kernel_rfl)) ?_
   obtain ⟨⟨t14, t15⟩, hr16, hp17⟩ := bind_some' hp13
   try dsimp only at hp17
   have hS19 := hS7.pick3
   have hS20 := hS19.pick3
   refine r_call1 (c := (cd26 [1, 1, 0])) (i := 4) (d := (some 15)) (g := 22) (args := #[.string a1, .agg (enc_api_Pick a2).toArray, .pointer (some ⟨ba0_1c0, 0, none⟩), .pointer (some ⟨ba0_1c0vc0, 0, none⟩)]) (by kernel_rfl) (by kernel_rfl) (by kernel_rfl) (by kernel_rfl) (weirlaw15_Graph__Machine_3.ok a1 a2 (⟨a0_1c0vc0v.To, a0_1c0vc0v.Ends, a0_1c0vc0v.Odd, a0_1c0vc0v.Holes⟩ : weirlaw15_Graph) ba0_1c0 ba0_1c0vc0 Aa0_1c0vc0v_0 ca0_1c0vc0v_0 hS20 ha0_1c0vc0v_0 hr16) ?_
   rintro _ w21 ⟨rfl, hS22⟩
   refine ⟨.tuple #[.string t14, .bool t15], rfl, ?_⟩
   refine sx_run 5 (todo' := [.code (cd26 [1, 1, 1])]) (us := [(16, .string t14), (17, .bool t15), (6, .string t14), (7, .bool t15)]) (by kernel_rfl) ?_
   have hS23 := hS22.pick2
   have hS24 := hS23.drop
   have hS25 := hS24.pick2
   have hS26 := hS25.drop
   refine runs_ret (fn := Try.f26) (v := .tuple #[.string t14, .bool t15]) Try.func26 (by kernel_rfl) ?_
   have hr27 := (Option.some.inj hp17)
   cases hr27
   exact hR _ _ ⟨rfl, hS26⟩

noncomputable def cd11 (p : List Nat) : Code := sub (bodyOf Try.f11) p
def weirref15_Replay.l0 (a0_0 : ByteArray) (a0_1 : Bool) (a0_1c0vc0v : weirlaw15_Graph) (a0_2 : Bool) (a0_3 : Bool) (a1 : List api_Pick) (t26 : List ByteArray) (t30 : List Bool) (t34 : Int) : Option ((List ByteArray) × (List Bool)) :=
  (if (decide (t34 < (a1.length : Int))) = true then (if 0 ≤ t34 ∧ t34 < (t26.length : Int) then (if 0 ≤ t34 ∧ t34 < (a1.length : Int) then (weirref15_step.f a0_0 a0_1 (⟨a0_1c0vc0v.To, a0_1c0vc0v.Ends, a0_1c0vc0v.Odd, a0_1c0vc0v.Holes⟩ : weirlaw15_Graph) a0_2 a0_3 (gt t26 t34) (gt a1 t34) >>= (fun (t59, t60) => (((if t60 = true then some ((t59, true)) else some (((gt t26 t34), false))) : Option (ByteArray × Bool)) >>= (fun (t76, t77) => (if (t26.length + ([t76] : List ByteArray).length) * 16 ≤ 140737488355328 then (if (t30.length + ([t77] : List Bool).length) * 1 ≤ 140737488355328 then (weirref15_Replay.l0 a0_0 a0_1 a0_1c0vc0v a0_2 a0_3 a1 (t26 ++ ([t76] : List ByteArray)) (t30 ++ ([t77] : List Bool)) (IntKind.i64.wrap (t34 + 1))) else none) else none))))) else none) else none) else some ((t26, t30)))
 partial_fixpoint
def weirref15_Replay.f (a0_0 : ByteArray) (a0_1 : Bool) (a0_1c0vc0v : weirlaw15_Graph) (a0_2 : Bool) (a0_3 : Bool) (a1 : List api_Pick) : Option ((List ByteArray) × (List Bool)) :=
  (weirref15_Replay.l0 a0_0 a0_1 a0_1c0vc0v a0_2 a0_3 a1 ([a0_0] : List ByteArray) [] 0 >>= (fun (t12, t16) => some ((t12, t16))))
set_option maxHeartbeats 16000000 in
theorem weirref15_Replay.ok (a0_0 : ByteArray) (a0_1 : Bool) (a0_1c0vc0v : weirlaw15_Graph) (a0_2 : Bool) (a0_3 : Bool) (a1 : List api_Pick) (ba0_1c0 : Nat) (ba0_1c0vc0 : Nat) (Aa0_1c0vc0v_0 : Option Addr) (ca0_1c0vc0v_0 : Nat) (Aa1 : Option Addr) (ca1 : Nat) {w0 : World} {Z : Zm} {fs : List XObj} {w : World} (hS0 : St w0 Z (xblk ba0_1c0 53 ([.func (.func 20) #[] #[.pointer (some ⟨ba0_1c0vc0, 0, none⟩)]]) :: xblk ba0_1c0vc0 25 ([.slice Aa0_1c0vc0v_0 a0_1c0vc0v.To.length ca0_1c0vc0v_0, .int .u64 a0_1c0vc0v.Ends, .bool a0_1c0vc0v.Odd, .int .i64 a0_1c0vc0v.Holes]) :: fs) w) (ha0_1c0vc0v_0 : SlZ (repL (flat (encI .i64)) 1) 1 Z Aa0_1c0vc0v_0 ca0_1c0vc0v_0 a0_1c0vc0v.To) (ha1 : SlZ (flat enc_api_Pick) 3 Z Aa1 ca1 a1) {q0 : List ByteArray} {q1 : List Bool} (hp0 : weirref15_Replay.f a0_0 a0_1 a0_1c0vc0v a0_2 a0_3 a1 = some (q0, q1)) :
    Calls Try.prog 11 #[.agg #[.string a0_0, cond a0_1 (.func (.func 21) #[] #[.pointer (some ⟨ba0_1c0, 0, none⟩), .pointer (some ⟨ba0_1c0vc0, 0, none⟩)]) .nilFunc, cond a0_2 (.func (.func 22) #[] #[.pointer (some ⟨ba0_1c0, 0, none⟩), .pointer (some ⟨ba0_1c0vc0, 0, none⟩)]) .nilFunc, cond a0_3 (.func (.func 23) #[] #[.pointer (some ⟨ba0_1c0, 0, none⟩), .pointer (some ⟨ba0_1c0vc0, 0, none⟩)]) .nilFunc], .slice Aa1 a1.length ca1] w (fun e w' => ∃ (QA0 : Option Addr) (Qc0 : Nat) (QA2 : Option Addr) (Qc2 : Nat), e = .returned (.tuple #[.slice QA0 q0.length Qc0, .slice QA2 q1.length Qc2]) ∧ St w0 Z (xrow QA0 Qc0 9 1 (q0.flatMap encS) :: xrow QA2 Qc2 4 1 (q1.flatMap encB) :: xblk ba0_1c0 53 ([.func (.func 20) #[] #[.pointer (some ⟨ba0_1c0vc0, 0, none⟩)]]) :: xblk ba0_1c0vc0 25 ([.slice Aa0_1c0vc0v_0 a0_1c0vc0v.To.length ca0_1c0vc0v_0, .int .u64 a0_1c0vc0v.Ends, .bool a0_1c0vc0v.Odd, .int .i64 a0_1c0vc0v.Holes]) :: fs) w') := by
  refine calls_abs ?_; intro R hR
  unfold weirref15_Replay.f at hp0
  refine calls_of_runs (fn := Try.f11) (c := cd11 []) Try.func11 (by kernel_rfl) (al := [.agg #[.string a0_0, cond a0_1 (.func (.func 21) #[] #[.pointer (some ⟨ba0_1c0, 0, none⟩), .pointer (some ⟨ba0_1c0vc0, 0, none⟩)]) .nilFunc, cond a0_2 (.func (.func 22) #[] #[.pointer (some ⟨ba0_1c0, 0, none⟩), .pointer (some ⟨ba0_1c0vc0, 0, none⟩)]) .nilFunc, cond a0_3 (.func (.func 23) #[] #[.pointer (some ⟨ba0_1c0, 0, none⟩), .pointer (some ⟨ba0_1c0vc0, 0, none⟩)]) .nilFunc], .slice Aa1 a1.length ca1]) rfl (n := 45) rfl ?_
  refine sx_run 2 (todo' := [.inRegion (opsOf (cd11 [0])) [0, 1, 2], .code (cd11 [1])]) (us := []) (by kernel_rfl) ?_
  refine r_box (c := (cd11 [0])) (i := 0) (d := (some 2)) (ty := 0) (x := (.tmp 0)) (v := .agg #[.string a0_0, cond a0_1 (.func (.func 21) #[] #[.pointer (some ⟨ba0_1c0, 0, none⟩), .pointer (some ⟨ba0_1c0vc0, 0, none⟩)]) .nilFunc, cond a0_2 (.func (.func 22) #[] #[.pointer (some ⟨ba0_1c0, 0, none⟩), .pointer (some ⟨ba0_1c0vc0, 0, none⟩)]) .nilFunc, cond a0_3 (.func (.func 23) #[] #[.pointer (some ⟨ba0_1c0, 0, none⟩), .pointer (some ⟨ba0_1c0vc0, 0, none⟩)]) .nilFunc]) (t := 31) (cs := [.string a0_0, cond a0_1 (.func (.func 21) #[] #[.pointer (some ⟨ba0_1c0, 0, none⟩), .pointer (some ⟨ba0_1c0vc0, 0, none⟩)]) .nilFunc, cond a0_2 (.func (.func 22) #[] #[.pointer (some ⟨ba0_1c0, 0, none⟩), .pointer (some ⟨ba0_1c0vc0, 0, none⟩)]) .nilFunc, cond a0_3 (.func (.func 23) #[] #[.pointer (some ⟨ba0_1c0, 0, none⟩), .pointer (some ⟨ba0_1c0vc0, 0, none⟩)]) .nilFunc]) hS0 (by kernel_rfl) (by kernel_rfl) (by kernel_rfl) (by kernel_rfl) ?_
  intro b1 w2 hS3
  refine sx_run 6 (todo' := [.inRegion (opsOf (cd11 [1, 0])) [1, 2, 3], .code (cd11 [1, 1])]) (us := [(4, .slice none 0 0), (5, .slice none 0 0), (12, .pointer (some ⟨b1, 0, none⟩))]) (by kernel_rfl) ?_
  refine r_load (c := (cd11 [1, 0])) (i := 1) (d := (some 13)) (ty := 9) (t := 9) (x := (.tmp 12)) (p := ⟨b1, 0, none⟩) (v := .string a0_0) (by kernel_rfl) (by kernel_rfl) (by kernel_rfl) (loads_at 0 (hS3.blk 0 rfl) (by kernel_rfl) (by kernel_rfl)) ?_
  refine r_lit (c := (cd11 [1, 0])) (i := 2) (d := (some 14)) (ty := 40) (t := 40) (e := 9) (sz := 1) (n := 1) (parts := #[(0, (.tmp 13))]) (vs := [(0, .string a0_0)]) (z := zeroOf Try.prog 9) (cs' := ([a0_0] : List ByteArray).flatMap encS) hS3 (by kernel_rfl) (by kernel_rfl) (by kernel_rfl) (by kernel_rfl) (by kernel_rfl) (by decide) (by decide) (by kernel_rfl) rfl (Parts.cons (c := [.string a0_0]) (by kernel_rfl) rfl Parts.nil) rfl ?_
  intro b6 w7 hS8
  refine sx_run 13 (todo' := [.code (cd11 [1, 1, 1, 0, 1, 0, 0]), .inLoop (cd11 [1, 1, 1, 0, 1, 0, 0]), .inBlock 0, .code (cd11 [1, 1, 1, 1])]) (us := [(6, .slice (some ⟨b6, 0, none⟩) ([a0_0] : List ByteArray).length 1), (7, .slice none 0 0), (8, .int .i64 0)]) (by kernel_rfl) ?_
  obtain ⟨v9, hv10, hp11⟩ := bind_some' hp0
  have J22 : ∀ (t12 : List ByteArray) (t16 : List Bool) (he24 : (t12, t16) = v9) (l23 : List Value) (A13 : Option Addr) (c14 : Nat) (A17 : Option Addr) (c18 : Nat) (w20 : World) (hS21 : St w0 Z (xrow A13 c14 9 1 (t12.flatMap encS) :: xrow A17 c18 4 1 (t16.flatMap encB) :: xblk ba0_1c0 53 ([.func (.func 20) #[] #[.pointer (some ⟨ba0_1c0vc0, 0, none⟩)]]) :: xblk ba0_1c0vc0 25 ([.slice Aa0_1c0vc0v_0 a0_1c0vc0v.To.length ca0_1c0vc0v_0, .int .u64 a0_1c0vc0v.Ends, .bool a0_1c0vc0v.Odd, .int .i64 a0_1c0vc0v.Holes]) :: fs) w20), Runs Try.prog 11 [.code (cd11 [1, 1, 1, 1])] (fill [none, none, none, none, none, none, some (.slice A13 t12.length c14), some (.slice A17 t16.length c18), none, none, none, none, none, none, none, none, none, none, none, none, none, none, none, none, none, none, none, none, none, none, none, none, none, none, none, none, none, none, none, none, none, none, none, none, none, none, none] l23) w20 R := by
   intro t12 t16 he24 l23 A13 c14 A17 c18 w20 hS21
   subst he24
   try dsimp only at hp11
   refine sx_run 7 (todo' := [.code (cd11 [1, 1, 1, 1, 1])]) (us := [(45, .slice A13 t12.length c14), (46, .slice A17 t16.length c18), (4, .slice A13 t12.length c14), (5, .slice A17 t16.length c18)]) (by kernel_rfl) ?_
   refine runs_ret (fn := Try.f11) (v := .tuple #[.slice A13 t12.length c14, .slice A17 t16.length c18]) Try.func11 (by kernel_rfl) ?_
   have hr25 := (Option.some.inj hp11)
   cases hr25
   exact hR _ _ ⟨A13, c14, A17, c18, rfl, hS21⟩
  have L43 : ∀ (t26 : List ByteArray) (t30 : List Bool) (t34 : Int) (e38 : ((List ByteArray) × (List Bool))), weirref15_Replay.l0 a0_0 a0_1 a0_1c0vc0v a0_2 a0_3 a1 t26 t30 t34 = some e38 → e38 = v9 → ∀ (l37 : List Value) (A27 : Option Addr) (c28 : Nat) (A31 : Option Addr) (c32 : Nat) (w35 : World) (hS36 : St w0 Z (xblk b1 31 ([.string a0_0, cond a0_1 (.func (.func 21) #[] #[.pointer (some ⟨ba0_1c0, 0, none⟩), .pointer (some ⟨ba0_1c0vc0, 0, none⟩)]) .nilFunc, cond a0_2 (.func (.func 22) #[] #[.pointer (some ⟨ba0_1c0, 0, none⟩), .pointer (some ⟨ba0_1c0vc0, 0, none⟩)]) .nilFunc, cond a0_3 (.func (.func 23) #[] #[.pointer (some ⟨ba0_1c0, 0, none⟩), .pointer (some ⟨ba0_1c0vc0, 0, none⟩)]) .nilFunc]) :: xblk ba0_1c0 53 ([.func (.func 20) #[] #[.pointer (some ⟨ba0_1c0vc0, 0, none⟩)]]) :: xblk ba0_1c0vc0 25 ([.slice Aa0_1c0vc0v_0 a0_1c0vc0v.To.length ca0_1c0vc0v_0, .int .u64 a0_1c0vc0v.Ends, .bool a0_1c0vc0v.Odd, .int .i64 a0_1c0vc0v.Holes]) :: xrow A27 c28 9 1 (t26.flatMap encS) :: xrow A31 c32 4 1 (t30.flatMap encB) :: fs) w35), Runs Try.prog 11 [.code (cd11 [1, 1, 1, 0, 1, 0, 0]), .inLoop (cd11 [1, 1, 1, 0, 1, 0, 0]), .inBlock 0, .code (cd11 [1, 1, 1, 1])] (fill [none, some (.slice Aa1 a1.length ca1), some (.pointer (some ⟨b1, 0, none⟩)), none, none, none, some (.slice A27 t26.length c28), some (.slice A31 t30.length c32), some (.int .i64 t34), none, none, none, none, none, none, none, none, none, none, none, none, none, none, none, none, none, none, none, none, none, none, none, none, none, none, none, none, none, none, none, none, none, none, none, none, none, none] l37) w35 R := by
   refine weirref15_Replay.l0.partial_correctness a0_0 a0_1 a0_1c0vc0v a0_2 a0_3 a1 (fun t26 t30 t34 e38 => e38 = v9 → ∀ (l37 : List Value) (A27 : Option Addr) (c28 : Nat) (A31 : Option Addr) (c32 : Nat) (w35 : World) (hS36 : St w0 Z (xblk b1 31 ([.string a0_0, cond a0_1 (.func (.func 21) #[] #[.pointer (some ⟨ba0_1c0, 0, none⟩), .pointer (some ⟨ba0_1c0vc0, 0, none⟩)]) .nilFunc, cond a0_2 (.func (.func 22) #[] #[.pointer (some ⟨ba0_1c0, 0, none⟩), .pointer (some ⟨ba0_1c0vc0, 0, none⟩)]) .nilFunc, cond a0_3 (.func (.func 23) #[] #[.pointer (some ⟨ba0_1c0, 0, none⟩), .pointer (some ⟨ba0_1c0vc0, 0, none⟩)]) .nilFunc]) :: xblk ba0_1c0 53 ([.func (.func 20) #[] #[.pointer (some ⟨ba0_1c0vc0, 0, none⟩)]]) :: xblk ba0_1c0vc0 25 ([.slice Aa0_1c0vc0v_0 a0_1c0vc0v.To.length ca0_1c0vc0v_0, .int .u64 a0_1c0vc0v.Ends, .bool a0_1c0vc0v.Odd, .int .i64 a0_1c0vc0v.Holes]) :: xrow A27 c28 9 1 (t26.flatMap encS) :: xrow A31 c32 4 1 (t30.flatMap encB) :: fs) w35), Runs Try.prog 11 [.code (cd11 [1, 1, 1, 0, 1, 0, 0]), .inLoop (cd11 [1, 1, 1, 0, 1, 0, 0]), .inBlock 0, .code (cd11 [1, 1, 1, 1])] (fill [none, some (.slice Aa1 a1.length ca1), some (.pointer (some ⟨b1, 0, none⟩)), none, none, none, some (.slice A27 t26.length c28), some (.slice A31 t30.length c32), some (.int .i64 t34), none, none, none, none, none, none, none, none, none, none, none, none, none, none, none, none, none, none, none, none, none, none, none, none, none, none, none, none, none, none, none, none, none, none, none, none, none, none] l37) w35 R) ?_
   intro rec42 ih41 t26 t30 t34 e38 hb40 he39 l37 A27 c28 A31 c32 w35 hS36
   refine sx_split 7 (todo' := [.inRegion (opsOf (cd11 [1, 1, 1, 0, 1, 0, 0, 0, 0])) [], .code (cd11 [1, 1, 1, 0, 1, 0, 0, 0, 1]), .code (cd11 [1, 1, 1, 0, 1, 0, 0, 1]), .inLoop (cd11 [1, 1, 1, 0, 1, 0, 0]), .inBlock 0, .code (cd11 [1, 1, 1, 1])]) (us := [(15, .int .i64 t34), (16, .slice Aa1 a1.length ca1), (17, .int .i64 (a1.length : Int))]) (d := 18) (t := (decide (t34 < (a1.length : Int)))) (by kernel_rfl) (fun h44 => ?_) (fun h45 => ?_)
   ·skip
    have hp46 := ite_t hb40 h44
    refine sx_run 9 (todo' := [.inRegion (opsOf (cd11 [1, 1, 1, 0, 1, 0, 0, 1, 0, 0, 0])) [2, 3, 4], .code (cd11 [1, 1, 1, 0, 1, 0, 0, 1, 0, 0, 1]), .inBlock 1, .code (cd11 [1, 1, 1, 0, 1, 0, 0, 1, 1]), .inLoop (cd11 [1, 1, 1, 0, 1, 0, 0]), .inBlock 0, .code (cd11 [1, 1, 1, 1])]) (us := [(21, .slice A27 t26.length c28), (22, .int .i64 t34)]) (by kernel_rfl) ?_
    obtain ⟨g47, hp48⟩ := ite_some hp46
    obtain ⟨b49, p50, hA51, -⟩ := (hS36.row 3 rfl).at_ len_encS (by omega) g47.1 g47.2
    refine r_indexAddr (c := (cd11 [1, 1, 1, 0, 1, 0, 0, 1, 0, 0, 0])) (i := 2) (d := (some 23)) (ty := 0) (t := 40) (e := 9) (n := t26.length) (cp := c28) (sz := 1) (kk := .i64) (x := (.tmp 21)) (y := (.tmp 22)) (b := b49) (o' := p50) (j := t34) (by kernel_rfl) (by kernel_rfl) (slv (by kernel_rfl) hA51) (by kernel_rfl) (by kernel_rfl) (by kernel_rfl) g47.1 g47.2 ?_
    refine r_load (c := (cd11 [1, 1, 1, 0, 1, 0, 0, 1, 0, 0, 0])) (i := 3) (d := (some 24)) (ty := 9) (t := 9) (x := (.tmp 23)) (p := ⟨b49, p50 + t34.toNat * 1, none⟩) (v := .string (gt t26 t34)) (by kernel_rfl) (by kernel_rfl) (by kernel_rfl) (loads_at 0 ((hS36.row 3 rfl).at2 hA51 len_encS (by omega) g47.1 g47.2) (by kernel_rfl) (by kernel_rfl)) ?_
    refine sx_run 3 (todo' := [.code (cd11 [1, 1, 1, 0, 1, 0, 0, 1, 0, 0, 1, 0]), .code (cd11 [1, 1, 1, 0, 1, 0, 0, 1, 0, 0, 1, 1]), .inBlock 1, .code (cd11 [1, 1, 1, 0, 1, 0, 0, 1, 1]), .inLoop (cd11 [1, 1, 1, 0, 1, 0, 0]), .inBlock 0, .code (cd11 [1, 1, 1, 1])]) (us := [(9, .string (gt t26 t34))]) (by kernel_rfl) ?_
    refine r_quiet hS36 (c := (cd11 [1, 1, 1, 0, 1, 0, 0, 1, 0, 0, 1, 0])) (id := 7) (by kernel_rfl) (by kernel_rfl) (by kernel_rfl) (is := [0, 1, 2, 3, 4, 5, 6, 7, 8, 9, 10, 11]) (by kernel_rfl) ?_
    refine q_load (c := (cd11 [1, 1, 1, 0, 1, 0, 0, 1, 0, 0, 1, 0])) (i := 0) (d := (some 26)) (ty := 31) (t := 31) (x := (.tmp 2)) (p := ⟨b1, 0, none⟩) (v := .agg #[.string a0_0, cond a0_1 (.func (.func 21) #[] #[.pointer (some ⟨ba0_1c0, 0, none⟩), .pointer (some ⟨ba0_1c0vc0, 0, none⟩)]) .nilFunc, cond a0_2 (.func (.func 22) #[] #[.pointer (some ⟨ba0_1c0, 0, none⟩), .pointer (some ⟨ba0_1c0vc0, 0, none⟩)]) .nilFunc, cond a0_3 (.func (.func 23) #[] #[.pointer (some ⟨ba0_1c0, 0, none⟩), .pointer (some ⟨ba0_1c0vc0, 0, none⟩)]) .nilFunc]) (by kernel_rfl) (by kernel_rfl) (by kernel_rfl) (fun w hC => (loads_agg (hC.blk 0 rfl) (by kernel_rfl) (by kernel_rfl))) ?_
    refine q_run 3 (is' := [4, 5, 6, 7, 8, 9, 10, 11]) (us := [(27, .string (gt t26 t34)), (28, .slice Aa1 a1.length ca1), (29, .int .i64 t34)]) (by kernel_rfl) ?_
    obtain ⟨g53, hp54⟩ := ite_some hp48
    obtain ⟨b55, p56, hA57, hc58⟩ := ha1.atF g53.1 g53.2
    refine q_indexAddr (c := (cd11 [1, 1, 1, 0, 1, 0, 0, 1, 0, 0, 1, 0])) (i := 4) (d := (some 30)) (ty := 0) (t := 33) (e := 39) (n := a1.length) (cp := ca1) (sz := 3) (kk := .i64) (x := (.tmp 28)) (y := (.tmp 29)) (b := b55) (o' := p56) (j := t34) (by kernel_rfl) (by kernel_rfl) (slv (by kernel_rfl) hA57) (by kernel_rfl) (by kernel_rfl) (by kernel_rfl) g53.1 g53.2 ?_
    refine q_load (c := (cd11 [1, 1, 1, 0, 1, 0, 0, 1, 0, 0, 1, 0])) (i := 5) (d := (some 31)) (ty := 39) (t := 39) (x := (.tmp 30)) (p := ⟨b55, p56 + t34.toNat * 3, none⟩) (v := .agg (enc_api_Pick (gt a1 t34)).toArray) (by kernel_rfl) (by kernel_rfl) (by kernel_rfl) (fun w hC => (loads_agg (hc58.cells hC) (by kernel_rfl) (by kernel_rfl))) ?_
    obtain ⟨⟨t59, t60⟩, hr61, hp62⟩ := bind_some' hp54
    try dsimp only at hp62
    refine q_call1 (c := (cd11 [1, 1, 1, 0, 1, 0, 0, 1, 0, 0, 1, 0])) (i := 6) (d := (some 32)) (v := .tuple #[.string t59, .bool t60]) (g := 26) (args := #[.agg #[.string a0_0, cond a0_1 (.func (.func 21) #[] #[.pointer (some ⟨ba0_1c0, 0, none⟩), .pointer (some ⟨ba0_1c0vc0, 0, none⟩)]) .nilFunc, cond a0_2 (.func (.func 22) #[] #[.pointer (some ⟨ba0_1c0, 0, none⟩), .pointer (some ⟨ba0_1c0vc0, 0, none⟩)]) .nilFunc, cond a0_3 (.func (.func 23) #[] #[.pointer (some ⟨ba0_1c0, 0, none⟩), .pointer (some ⟨ba0_1c0vc0, 0, none⟩)]) .nilFunc], .string (gt t26 t34), .agg (enc_api_Pick (gt a1 t34)).toArray]) (by kernel_rfl) (by kernel_rfl) (by kernel_rfl) (by kernel_rfl) (fun w hC => by
     have hS64 := hC.pick2
     have hS65 := hS64.pick2
     refine (weirref15_step.ok a0_0 a0_1 (⟨a0_1c0vc0v.To, a0_1c0vc0v.Ends, a0_1c0vc0v.Odd, a0_1c0vc0v.Holes⟩ : weirlaw15_Graph) a0_2 a0_3 (gt t26 t34) (gt a1 t34) ba0_1c0 ba0_1c0vc0 Aa0_1c0vc0v_0 ca0_1c0vc0v_0 hS65 ha0_1c0vc0v_0 hr61).mono ?_
     rintro e w2 ⟨rfl, h2⟩
     have hS66 := h2.pick4
     have hS67 := hS66.pick4
     have hS68 := hS67.pick3
     have hS69 := hS68.pick3
     have hS70 := hS69.pick4
     exact ⟨rfl, hS70⟩) ?_
    refine q_run 5 (is' := []) (us := [(25, .tuple #[.string t59, .bool t60]), (33, .string t59), (34, .bool t60), (10, .string t59), (11, .bool t60)]) (by kernel_rfl) ?_
    refine Qs.nil ?_
    intro w71 hS72
    refine sx_run 5 (todo' := [.code (cd11 [1, 1, 1, 0, 1, 0, 0, 1, 0, 0, 1, 1, 0, 1]), .code (cd11 [1, 1, 1, 0, 1, 0, 0, 1, 0, 0, 1, 1, 1]), .inBlock 1, .code (cd11 [1, 1, 1, 0, 1, 0, 0, 1, 1]), .inLoop (cd11 [1, 1, 1, 0, 1, 0, 0]), .inBlock 0, .code (cd11 [1, 1, 1, 1])]) (us := [(35, .bool t60)]) (by kernel_rfl) ?_
    obtain ⟨v73, hv74, hp75⟩ := bind_some' hp62
    have J80 : ∀ (t76 : ByteArray) (t77 : Bool) (he82 : (t76, t77) = v73) (l81 : List Value) (w78 : World) (hS79 : St w0 Z (xblk b1 31 ([.string a0_0, cond a0_1 (.func (.func 21) #[] #[.pointer (some ⟨ba0_1c0, 0, none⟩), .pointer (some ⟨ba0_1c0vc0, 0, none⟩)]) .nilFunc, cond a0_2 (.func (.func 22) #[] #[.pointer (some ⟨ba0_1c0, 0, none⟩), .pointer (some ⟨ba0_1c0vc0, 0, none⟩)]) .nilFunc, cond a0_3 (.func (.func 23) #[] #[.pointer (some ⟨ba0_1c0, 0, none⟩), .pointer (some ⟨ba0_1c0vc0, 0, none⟩)]) .nilFunc]) :: xblk ba0_1c0 53 ([.func (.func 20) #[] #[.pointer (some ⟨ba0_1c0vc0, 0, none⟩)]]) :: xblk ba0_1c0vc0 25 ([.slice Aa0_1c0vc0v_0 a0_1c0vc0v.To.length ca0_1c0vc0v_0, .int .u64 a0_1c0vc0v.Ends, .bool a0_1c0vc0v.Odd, .int .i64 a0_1c0vc0v.Holes]) :: xrow A27 c28 9 1 (t26.flatMap encS) :: xrow A31 c32 4 1 (t30.flatMap encB) :: fs) w78), Runs Try.prog 11 [.code (cd11 [1, 1, 1, 0, 1, 0, 0, 1, 0, 0, 1, 1, 1]), .inBlock 1, .code (cd11 [1, 1, 1, 0, 1, 0, 0, 1, 1]), .inLoop (cd11 [1, 1, 1, 0, 1, 0, 0]), .inBlock 0, .code (cd11 [1, 1, 1, 1])] (fill [none, some (.slice Aa1 a1.length ca1), some (.pointer (some ⟨b1, 0, none⟩)), none, none, none, some (.slice A27 t26.length c28), some (.slice A31 t30.length c32), some (.int .i64 t34), some (.string t76), none, some (.bool t77), none, none, none, none, none, none, none, none, none, none, none, none, none, none, none, none, none, none, none, none, none, none, none, none, none, none, none, none, none, none, none, none, none, none, none] l81) w78 R := by
     intro t76 t77 he82 l81 w78 hS79
     subst he82
     try dsimp only at hp75
     refine sx_run 4 (todo' := [.inRegion (opsOf (cd11 [1, 1, 1, 0, 1, 0, 0, 1, 0, 0, 1, 1, 1, 0])) [2, 3, 4], .code (cd11 [1, 1, 1, 0, 1, 0, 0, 1, 0, 0, 1, 1, 1, 1]), .inBlock 1, .code (cd11 [1, 1, 1, 0, 1, 0, 0, 1, 1]), .inLoop (cd11 [1, 1, 1, 0, 1, 0, 0]), .inBlock 0, .code (cd11 [1, 1, 1, 1])]) (us := [(37, .slice A27 t26.length c28), (38, .string t76)]) (by kernel_rfl) ?_
     refine r_lit (c := (cd11 [1, 1, 1, 0, 1, 0, 0, 1, 0, 0, 1, 1, 1, 0])) (i := 2) (d := (some 39)) (ty := 40) (t := 40) (e := 9) (sz := 1) (n := 1) (parts := #[(0, (.tmp 38))]) (vs := [(0, .string t76)]) (z := zeroOf Try.prog 9) (cs' := ([t76] : List ByteArray).flatMap encS) hS79 (by kernel_rfl) (by kernel_rfl) (by kernel_rfl) (by kernel_rfl) (by kernel_rfl) (by decide) (by decide) (by kernel_rfl) rfl (Parts.cons (c := [.string t76]) (by kernel_rfl) rfl Parts.nil) rfl ?_
     intro b84 w85 hS86
     have hS87 := hS86.pick4
     obtain ⟨g88, hp89⟩ := ite_some hp75
     refine r_append (c := (cd11 [1, 1, 1, 0, 1, 0, 0, 1, 0, 0, 1, 1, 1, 0])) (i := 3) (d := (some 40)) (ty := 40) (enc := encS) (e := 9) (u := 9) (t := 40) (t2 := 40) (sz := 1) (cp := c28) (A := A27) (bytes := 16) (xs := t26) (ys := ([t76] : List ByteArray)) (s := (.tmp 37)) (x := (.tmp 39)) (xv := .slice (some ⟨b84, 0, none⟩) ([t76] : List ByteArray).length 1) (info := infoOf Try.prog 9) (z := zeroOf Try.prog 9) (ycs := ([t76] : List ByteArray).flatMap encS) hS87 (by kernel_rfl) (by kernel_rfl) (by kernel_rfl) (by kernel_rfl) (by kernel_rfl) (.inl (by kernel_rfl)) (by kernel_rfl) (by kernel_rfl) (by kernel_rfl) (by kernel_rfl) (by kernel_rfl) (by omega) len_encS one_encS (src_row (hS87.row 1 rfl) (by omega) len_encS) rfl g88 (by omega) ?_
     intro A90 c91 w92 hS93
     refine sx_run 5 (todo' := [.inRegion (opsOf (cd11 [1, 1, 1, 0, 1, 0, 0, 1, 0, 0, 1, 1, 1, 1])) [2, 3, 4], .inBlock 1, .code (cd11 [1, 1, 1, 0, 1, 0, 0, 1, 1]), .inLoop (cd11 [1, 1, 1, 0, 1, 0, 0]), .inBlock 0, .code (cd11 [1, 1, 1, 1])]) (us := [(6, .slice A90 (t26 ++ ([t76] : List ByteArray)).length c91), (41, .slice A31 t30.length c32), (42, .bool t77)]) (by kernel_rfl) ?_
     refine r_lit (c := (cd11 [1, 1, 1, 0, 1, 0, 0, 1, 0, 0, 1, 1, 1, 1])) (i := 2) (d := (some 43)) (ty := 41) (t := 41) (e := 4) (sz := 1) (n := 1) (parts := #[(0, (.tmp 42))]) (vs := [(0, .bool t77)]) (z := zeroOf Try.prog 4) (cs' := ([t77] : List Bool).flatMap encB) hS93 (by kernel_rfl) (by kernel_rfl) (by kernel_rfl) (by kernel_rfl) (by kernel_rfl) (by decide) (by decide) (by kernel_rfl) rfl (Parts.cons (c := [.bool t77]) (by kernel_rfl) rfl Parts.nil) rfl ?_
     intro b96 w97 hS98
     have hS99 := hS98.pick6
     obtain ⟨g100, hp101⟩ := ite_some hp89
     refine r_append (c := (cd11 [1, 1, 1, 0, 1, 0, 0, 1, 0, 0, 1, 1, 1, 1])) (i := 3) (d := (some 44)) (ty := 41) (enc := encB) (e := 4) (u := 4) (t := 41) (t2 := 41) (sz := 1) (cp := c32) (A := A31) (bytes := 1) (xs := t30) (ys := ([t77] : List Bool)) (s := (.tmp 41)) (x := (.tmp 43)) (xv := .slice (some ⟨b96, 0, none⟩) ([t77] : List Bool).length 1) (info := infoOf Try.prog 4) (z := zeroOf Try.prog 4) (ycs := ([t77] : List Bool).flatMap encB) hS99 (by kernel_rfl) (by kernel_rfl) (by kernel_rfl) (by kernel_rfl) (by kernel_rfl) (.inl (by kernel_rfl)) (by kernel_rfl) (by kernel_rfl) (by kernel_rfl) (by kernel_rfl) (by kernel_rfl) (by omega) len_encB one_encB (src_row (hS99.row 1 rfl) (by omega) len_encB) rfl g100 (by omega) ?_
     intro A102 c103 w104 hS105
     refine sx_run 8 (todo' := [.inLoop (cd11 [1, 1, 1, 0, 1, 0, 0]), .inBlock 0, .code (cd11 [1, 1, 1, 1])]) (us := [(7, .slice A102 (t30 ++ ([t77] : List Bool)).length c103), (19, .int .i64 t34), (20, .int .i64 (IntKind.i64.wrap (t34 + 1))), (8, .int .i64 (IntKind.i64.wrap (t34 + 1)))]) (by kernel_rfl) ?_
     have hS107 := hS105.pick1
     have hS108 := hS107.drop
     have hS109 := hS108.pick2
     have hS110 := hS109.drop
     have hS111 := hS110.pick1
     have hS112 := hS111.pick4
     have hS113 := hS112.pick4
     have hS114 := hS113.pick4
     refine sx_run 1 (todo' := [.code (cd11 [1, 1, 1, 0, 1, 0, 0]), .inLoop (cd11 [1, 1, 1, 0, 1, 0, 0]), .inBlock 0, .code (cd11 [1, 1, 1, 1])]) (us := []) (by kernel_rfl) ?_
     refine Runs.fill (m := [none, some (.slice Aa1 a1.length ca1), some (.pointer (some ⟨b1, 0, none⟩)), none, none, none, some (.slice A90 (t26 ++ ([t76] : List ByteArray)).length c91), some (.slice A102 (t30 ++ ([t77] : List Bool)).length c103), some (.int .i64 (IntKind.i64.wrap (t34 + 1))), none, none, none, none, none, none, none, none, none, none, none, none, none, none, none, none, none, none, none, none, none, none, none, none, none, none, none, none, none, none, none, none, none, none, none, none, none, none]) (by kernel_rfl) ?_
     exact ih41 (t26 ++ ([t76] : List ByteArray)) (t30 ++ ([t77] : List Bool)) (IntKind.i64.wrap (t34 + 1)) _ hp101 he39 _ A90 c91 A102 c103 _ hS114
    cases t60
    ·skip
     have hp115 := ite_f hv74 rfl
     refine sx_run 2 (todo' := [.code (cd11 [1, 1, 1, 0, 1, 0, 0, 1, 0, 0, 1, 1, 1]), .inBlock 1, .code (cd11 [1, 1, 1, 0, 1, 0, 0, 1, 1]), .inLoop (cd11 [1, 1, 1, 0, 1, 0, 0]), .inBlock 0, .code (cd11 [1, 1, 1, 1])]) (us := []) (by kernel_rfl) ?_
     refine Runs.fill (m := [none, some (.slice Aa1 a1.length ca1), some (.pointer (some ⟨b1, 0, none⟩)), none, none, none, some (.slice A27 t26.length c28), some (.slice A31 t30.length c32), some (.int .i64 t34), some (.string (gt t26 t34)), none, some (.bool false), none, none, none, none, none, none, none, none, none, none, none, none, none, none, none, none, none, none, none, none, none, none, none, none, none, none, none, none, none, none, none, none, none, none, none]) (by kernel_rfl) ?_
     exact J80 (gt t26 t34) false (Option.some.inj hp115) _ _ hS72
    ·skip
     have hp116 := ite_t hv74 rfl
     refine sx_run 5 (todo' := [.code (cd11 [1, 1, 1, 0, 1, 0, 0, 1, 0, 0, 1, 1, 1]), .inBlock 1, .code (cd11 [1, 1, 1, 0, 1, 0, 0, 1, 1]), .inLoop (cd11 [1, 1, 1, 0, 1, 0, 0]), .inBlock 0, .code (cd11 [1, 1, 1, 1])]) (us := [(36, .string t59), (9, .string t59)]) (by kernel_rfl) ?_
     refine Runs.fill (m := [none, some (.slice Aa1 a1.length ca1), some (.pointer (some ⟨b1, 0, none⟩)), none, none, none, some (.slice A27 t26.length c28), some (.slice A31 t30.length c32), some (.int .i64 t34), some (.string t59), none, some (.bool true), none, none, none, none, none, none, none, none, none, none, none, none, none, none, none, none, none, none, none, none, none, none, none, none, none, none, none, none, none, none, none, none, none, none, none]) (by kernel_rfl) ?_
     exact J80 t59 true (Option.some.inj hp116) _ _ hS72
   ·skip
    have hp117 := ite_f hb40 h45
    refine sx_run 3 (todo' := [.code (cd11 [1, 1, 1, 1])]) (us := []) (by kernel_rfl) ?_
    have hS118 := hS36.drop
    have hS119 := hS118.pick1
    have hS120 := hS119.pick1
    have hS121 := hS120.pick3
    have hS122 := hS121.pick3
    refine Runs.fill (m := [none, none, none, none, none, none, some (.slice A27 t26.length c28), some (.slice A31 t30.length c32), none, none, none, none, none, none, none, none, none, none, none, none, none, none, none, none, none, none, none, none, none, none, none, none, none, none, none, none, none, none, none, none, none, none, none, none, none, none, none]) (by kernel_rfl) ?_
    exact J22 t26 t30 ((Option.some.inj hp117).trans he39) _ A27 c28 A31 c32 _ hS122
  have hS124 := hS8.nilrow none 4 1
  have hS125 := hS124.pick1
  have hS126 := hS125.pick4
  have hS127 := hS126.pick4
  have hS128 := hS127.pick4
  refine Runs.fill (m := [none, some (.slice Aa1 a1.length ca1), some (.pointer (some ⟨b1, 0, none⟩)), none, none, none, some (.slice (some ⟨b6, 0, none⟩) ([a0_0] : List ByteArray).length 1), some (.slice none 0 0), some (.int .i64 0), none, none, none, none, none, none, none, none, none, none, none, none, none, none, none, none, none, none, none, none, none, none, none, none, none, none, none, none, none, none, none, none, none, none, none, none, none, none]) (by kernel_rfl) ?_
  exact L43 ([a0_0] : List ByteArray) [] 0 _ hv10 rfl _ (some ⟨b6, 0, none⟩) 1 none 0 _ hS128

noncomputable def cd23 (p : List Nat) : Code := sub (bodyOf Try.f23) p
def weirlaw15_Graph__Machine_4.f (a0 : ByteArray) (a1vc0v : weirlaw15_Graph) : Option (api_Final × Bool) :=
  (weirlaw15_Graph__Machine_1.f a0 (⟨a1vc0v.To, a1vc0v.Ends, a1vc0v.Odd, a1vc0v.Holes⟩ : weirlaw15_Graph) >>= (fun t5 => (if (decide (t5 < 0)) = true then some (((⟨0, (Vector.replicate 48 0)⟩ : api_Final), false)) else (if (decide (t5 > 63)) = true then some (((⟨0, (Vector.replicate 48 0)⟩ : api_Final), false)) else (if 0 ≤ (IntKind.u64.wrap t5) then (if ((band .u64 (shrI .u64 a1vc0v.Ends (IntKind.u64.wrap t5)) 1) == 0) = true then some (((⟨0, (Vector.replicate 48 0)⟩ : api_Final), false)) else some (((⟨1, (vset (Vector.replicate 48 0) 0 t5)⟩ : api_Final), true))) else none)))))
set_option maxHeartbeats 16000000 in
theorem weirlaw15_Graph__Machine_4.ok (a0 : ByteArray) (a1vc0v : weirlaw15_Graph) (ba1 : Nat) (ba1vc0 : Nat) (Aa1vc0v_0 : Option Addr) (ca1vc0v_0 : Nat) {w0 : World} {Z : Zm} {fs : List XObj} {w : World} (hS0 : St w0 Z (xblk ba1 53 ([.func (.func 20) #[] #[.pointer (some ⟨ba1vc0, 0, none⟩)]]) :: xblk ba1vc0 25 ([.slice Aa1vc0v_0 a1vc0v.To.length ca1vc0v_0, .int .u64 a1vc0v.Ends, .bool a1vc0v.Odd, .int .i64 a1vc0v.Holes]) :: fs) w) (ha1vc0v_0 : SlZ (repL (flat (encI .i64)) 1) 1 Z Aa1vc0v_0 ca1vc0v_0 a1vc0v.To) {q0 : api_Final} {q1 : Bool} (hp0 : weirlaw15_Graph__Machine_4.f a0 a1vc0v = some (q0, q1)) :
    Calls Try.prog 23 #[.string a0, .pointer (some ⟨ba1, 0, none⟩), .pointer (some ⟨ba1vc0, 0, none⟩)] w (fun e w' => e = .returned (.tuple #[.agg (enc_api_Final q0).toArray, .bool q1]) ∧ St w0 Z (xblk ba1 53 ([.func (.func 20) #[] #[.pointer (some ⟨ba1vc0, 0, none⟩)]]) :: xblk ba1vc0 25 ([.slice Aa1vc0v_0 a1vc0v.To.length ca1vc0v_0, .int .u64 a1vc0v.Ends, .bool a1vc0v.Odd, .int .i64 a1vc0v.Holes]) :: fs) w') := by
  refine calls_abs ?_; intro R hR
  unfold weirlaw15_Graph__Machine_4.f at hp0
  refine calls_of_runs (fn := Try.f23) (c := cd23 []) Try.func23 (by kernel_rfl) (al := [.string a0, .pointer (some ⟨ba1, 0, none⟩), .pointer (some ⟨ba1vc0, 0, none⟩)]) rfl (n := 26) rfl ?_
  refine sx_run 2 (todo' := [.inRegion (opsOf (cd23 [0])) [0, 1], .code (cd23 [1])]) (us := []) (by kernel_rfl) ?_
  refine r_alloc (c := (cd23 [0])) (i := 0) (d := (some 4)) (ty := 0) (z := .agg (enc_api_Final (⟨0, (Vector.replicate 48 0)⟩ : api_Final)).toArray) (t := 46) (cs := enc_api_Final (⟨0, (Vector.replicate 48 0)⟩ : api_Final)) hS0 (by kernel_rfl) (by kernel_rfl) (by kernel_rfl) (by kernel_rfl) ?_
  intro b1 w2 hS3
  refine sx_run 4 (todo' := [.inRegion (opsOf (cd23 [1, 0])) [0, 1, 2, 3], .code (cd23 [1, 1])]) (us := [(5, .bool false)]) (by kernel_rfl) ?_
  refine r_load (c := (cd23 [1, 0])) (i := 0) (d := (some 7)) (ty := 53) (t := 53) (x := (.tmp 1)) (p := ⟨ba1, 0, none⟩) (v := .func (.func 20) #[] #[.pointer (some ⟨ba1vc0, 0, none⟩)]) (by kernel_rfl) (by kernel_rfl) (by kernel_rfl) (loads_at 0 (hS3.blk 1 rfl) (by kernel_rfl) (by kernel_rfl)) ?_
  refine sx_run 1 (todo' := [.inRegion (opsOf (cd23 [1, 0])) [2, 3], .code (cd23 [1, 1])]) (us := [(8, .string a0)]) (by kernel_rfl) ?_
  obtain ⟨t5, hr6, hp7⟩ := bind_some' hp0
  have hS9 := hS3.pick2
  refine r_call1 (c := (cd23 [1, 0])) (i := 2) (d := (some 9)) (g := 20) (args := #[.string a0, .pointer (some ⟨ba1vc0, 0, none⟩)]) (by kernel_rfl) (by kernel_rfl) (by kernel_rfl) (by kernel_rfl) (weirlaw15_Graph__Machine_1.ok a0 (⟨a1vc0v.To, a1vc0v.Ends, a1vc0v.Odd, a1vc0v.Holes⟩ : weirlaw15_Graph) ba1vc0 Aa1vc0v_0 ca1vc0v_0 hS9 ha1vc0v_0 hr6) ?_
  rintro _ w10 ⟨rfl, hS11⟩
  refine ⟨.int .i64 t5, rfl, ?_⟩
  refine sx_split 7 (todo' := [.inRegion (opsOf (cd23 [1, 1, 0, 0])) [2, 3, 4, 5, 6, 7, 8, 9, 10, 11, 12, 13, 14], .code (cd23 [1, 1, 0, 1]), .code (cd23 [1, 1, 1])]) (us := [(6, .int .i64 t5), (10, .int .i64 t5)]) (d := 11) (t := (decide (t5 < 0))) (by kernel_rfl) (fun h12 => ?_) (fun h13 => ?_)
  ·skip
   have hp14 := ite_t hp7 h12
   refine sx_run 18 (todo' := [.inRegion (opsOf (cd23 [1, 1, 0, 1, 0, 0])) [1, 2], .code (cd23 [1, 1, 0, 1, 0, 1]), .code (cd23 [1, 1, 1])]) (us := [(12, .bool true), (13, undef), (14, undef), (15, .bool true), (16, .bool true), (17, undef), (18, undef), (19, undef), (20, undef), (21, undef), (22, undef), (23, undef), (24, .bool true), (25, .agg (enc_api_Final (⟨0, (Vector.replicate 48 0)⟩ : api_Final)).toArray)]) (by kernel_rfl) ?_
   have hS15 := hS11.pick1
   refine r_store (c := (cd23 [1, 1, 0, 1, 0, 0])) (i := 1) (d := none) (ty := 0) (t := 46) (x := (.tmp 4)) (y := (.tmp 25)) (b := b1) (o := 0) (e := 46) (cs := enc_api_Final (⟨0, (Vector.replicate 48 0)⟩ : api_Final)) (v := .agg (enc_api_Final (⟨0, (Vector.replicate 48 0)⟩ : api_Final)).toArray) (vs := enc_api_Final (⟨0, (Vector.replicate 48 0)⟩ : api_Final)) (cs' := enc_api_Final (⟨0, (Vector.replicate 48 0)⟩ : api_Final)) hS15 (by kernel_rfl) (by kernel_rfl) (by kernel_rfl) (by kernel_rfl) (by kernel_rfl) (lenK (len_api_Final _) (by kernel_rfl)) (one_api_Final _) (by simp only [len_api_Final, List.length_cons, List.length_nil, List.length_append]; omega) (over_all ((len_api_Final _).trans (len_api_Final _).symm)) ?_
   intro w16 hS17
   refine sx_run 2 (todo' := [.code (cd23 [1, 1, 0, 1, 0, 1]), .code (cd23 [1, 1, 1])]) (us := [(5, .bool false)]) (by kernel_rfl) ?_
   have hS18 := hS17.drop
   have hS19 := hS18.pick1
   refine runs_ret (fn := Try.f23) (v := .tuple #[.agg (enc_api_Final (⟨0, (Vector.replicate 48 0)⟩ : api_Final)).toArray, .bool false]) Try.func23 (resl_run (fn := Try.f23) (by kernel_rfl) (.cell (t := 4) (ty := 46) (by kernel_rfl) (loads_agg (hS17.blk 0 rfl) (by kernel_rfl) (lenK (len_api_Final _) (by kernel_rfl))) (.tmp (t := 5) (by kernel_rfl) .nil))) ?_
   have hr20 := (Option.some.inj hp14)
   cases hr20
   exact hR _ _ ⟨rfl, hS19⟩
  ·skip
   have hp21 := ite_f hp7 h13
   refine sx_split 3 (todo' := [.inRegion (opsOf (cd23 [1, 1, 0, 0])) [5, 6, 7, 8, 9, 10, 11, 12, 13, 14], .code (cd23 [1, 1, 0, 1]), .code (cd23 [1, 1, 1])]) (us := [(12, .bool false), (13, .int .i64 t5)]) (d := 14) (t := (decide (t5 > 63))) (by kernel_rfl) (fun h22 => ?_) (fun h23 => ?_)
   ·skip
    have hp24 := ite_t hp21 h22
    refine sx_run 15 (todo' := [.inRegion (opsOf (cd23 [1, 1, 0, 1, 0, 0])) [1, 2], .code (cd23 [1, 1, 0, 1, 0, 1]), .code (cd23 [1, 1, 1])]) (us := [(15, .bool true), (16, .bool true), (17, undef), (18, undef), (19, undef), (20, undef), (21, undef), (22, undef), (23, undef), (24, .bool true), (25, .agg (enc_api_Final (⟨0, (Vector.replicate 48 0)⟩ : api_Final)).toArray)]) (by kernel_rfl) ?_
    have hS25 := hS11.pick1
    refine r_store (c := (cd23 [1, 1, 0, 1, 0, 0])) (i := 1) (d := none) (ty := 0) (t := 46) (x := (.tmp 4)) (y := (.tmp 25)) (b := b1) (o := 0) (e := 46) (cs := enc_api_Final (⟨0, (Vector.replicate 48 0)⟩ : api_Final)) (v := .agg (enc_api_Final (⟨0, (Vector.replicate 48 0)⟩ : api_Final)).toArray) (vs := enc_api_Final (⟨0, (Vector.replicate 48 0)⟩ : api_Final)) (cs' := enc_api_Final (⟨0, (Vector.replicate 48 0)⟩ : api_Final)) hS25 (by kernel_rfl) (by kernel_rfl) (by kernel_rfl) (by kernel_rfl) (by kernel_rfl) (lenK (len_api_Final _) (by kernel_rfl)) (one_api_Final _) (by simp only [len_api_Final, List.length_cons, List.length_nil, List.length_append]; omega) (over_all ((len_api_Final _).trans (len_api_Final _).symm)) ?_
    intro w26 hS27
    refine sx_run 2 (todo' := [.code (cd23 [1, 1, 0, 1, 0, 1]), .code (cd23 [1, 1, 1])]) (us := [(5, .bool false)]) (by kernel_rfl) ?_
    have hS28 := hS27.drop
    have hS29 := hS28.pick1
    refine runs_ret (fn := Try.f23) (v := .tuple #[.agg (enc_api_Final (⟨0, (Vector.replicate 48 0)⟩ : api_Final)).toArray, .bool false]) Try.func23 (resl_run (fn := Try.f23) (by kernel_rfl) (.cell (t := 4) (ty := 46) (by kernel_rfl) (loads_agg (hS27.blk 0 rfl) (by kernel_rfl) (lenK (len_api_Final _) (by kernel_rfl))) (.tmp (t := 5) (by kernel_rfl) .nil))) ?_
    have hr30 := (Option.some.inj hp24)
    cases hr30
    exact hR _ _ ⟨rfl, hS29⟩
   ·skip
    have hp31 := ite_f hp21 h23
    refine sx_run 3 (todo' := [.inRegion (opsOf (cd23 [1, 1, 0, 0])) [8, 9, 10, 11, 12, 13, 14], .code (cd23 [1, 1, 0, 1]), .code (cd23 [1, 1, 1])]) (us := [(15, .bool false), (16, .bool false), (17, .pointer (some ⟨ba1vc0, 1, none⟩))]) (by kernel_rfl) ?_
    refine r_load (c := (cd23 [1, 1, 0, 0])) (i := 8) (d := (some 18)) (ty := 23) (t := 23) (x := (.tmp 17)) (p := ⟨ba1vc0, 1, none⟩) (v := .int .u64 a1vc0v.Ends) (by kernel_rfl) (by kernel_rfl) (by kernel_rfl) (loads_at 1 (hS11.blk 0 rfl) (by kernel_rfl) (by kernel_rfl)) ?_
    refine sx_run 2 (todo' := [.inRegion (opsOf (cd23 [1, 1, 0, 0])) [11, 12, 13, 14], .code (cd23 [1, 1, 0, 1]), .code (cd23 [1, 1, 1])]) (us := [(19, .int .i64 t5), (20, .int .u64 (IntKind.u64.wrap t5))]) (by kernel_rfl) ?_
    obtain ⟨g32, hp33⟩ := ite_some hp31
    refine r_val (c := (cd23 [1, 1, 0, 0])) (i := 11) (d := (some 21)) (ty := 23) (op := .binOp .shr 23 (.tmp 18) (.tmp 20) 56) (v := .int .u64 (shrI .u64 a1vc0v.Ends (IntKind.u64.wrap t5))) (by kernel_rfl) (by kernel_rfl) (fun o ho _ => (x_shift (kk := .u64) (by kernel_rfl) (by kernel_rfl) g32).2 ho) ?_
    refine sx_split 2 (todo' := [.inRegion (opsOf (cd23 [1, 1, 0, 0])) [14], .code (cd23 [1, 1, 0, 1]), .code (cd23 [1, 1, 1])]) (us := [(22, .int .u64 (band .u64 (shrI .u64 a1vc0v.Ends (IntKind.u64.wrap t5)) 1))]) (d := 23) (t := ((band .u64 (shrI .u64 a1vc0v.Ends (IntKind.u64.wrap t5)) 1) == 0)) (by kernel_rfl) (fun h34 => ?_) (fun h35 => ?_)
    ·skip
     have hp36 := ite_t hp33 h34
     refine sx_run 6 (todo' := [.inRegion (opsOf (cd23 [1, 1, 0, 1, 0, 0])) [1, 2], .code (cd23 [1, 1, 0, 1, 0, 1]), .code (cd23 [1, 1, 1])]) (us := [(24, .bool true), (25, .agg (enc_api_Final (⟨0, (Vector.replicate 48 0)⟩ : api_Final)).toArray)]) (by kernel_rfl) ?_
     have hS37 := hS11.pick1
     refine r_store (c := (cd23 [1, 1, 0, 1, 0, 0])) (i := 1) (d := none) (ty := 0) (t := 46) (x := (.tmp 4)) (y := (.tmp 25)) (b := b1) (o := 0) (e := 46) (cs := enc_api_Final (⟨0, (Vector.replicate 48 0)⟩ : api_Final)) (v := .agg (enc_api_Final (⟨0, (Vector.replicate 48 0)⟩ : api_Final)).toArray) (vs := enc_api_Final (⟨0, (Vector.replicate 48 0)⟩ : api_Final)) (cs' := enc_api_Final (⟨0, (Vector.replicate 48 0)⟩ : api_Final)) hS37 (by kernel_rfl) (by kernel_rfl) (by kernel_rfl) (by kernel_rfl) (by kernel_rfl) (lenK (len_api_Final _) (by kernel_rfl)) (one_api_Final _) (by simp only [len_api_Final, List.length_cons, List.length_nil, List.length_append]; omega) (over_all ((len_api_Final _).trans (len_api_Final _).symm)) ?_
     intro w38 hS39
     refine sx_run 2 (todo' := [.code (cd23 [1, 1, 0, 1, 0, 1]), .code (cd23 [1, 1, 1])]) (us := [(5, .bool false)]) (by kernel_rfl) ?_
     have hS40 := hS39.drop
     have hS41 := hS40.pick1
     refine runs_ret (fn := Try.f23) (v := .tuple #[.agg (enc_api_Final (⟨0, (Vector.replicate 48 0)⟩ : api_Final)).toArray, .bool false]) Try.func23 (resl_run (fn := Try.f23) (by kernel_rfl) (.cell (t := 4) (ty := 46) (by kernel_rfl) (loads_agg (hS39.blk 0 rfl) (by kernel_rfl) (lenK (len_api_Final _) (by kernel_rfl))) (.tmp (t := 5) (by kernel_rfl) .nil))) ?_
     have hr42 := (Option.some.inj hp36)
     cases hr42
     exact hR _ _ ⟨rfl, hS41⟩
    ·skip
     have hp43 := ite_f hp33 h35
     refine sx_run 9 (todo' := [.inRegion (opsOf (cd23 [1, 1, 1, 0])) [3, 4], .code (cd23 [1, 1, 1, 1])]) (us := [(24, .bool false), (26, .int .i64 t5), (27, .agg ((encV (encI .i64)) (vset (Vector.replicate 48 0) 0 t5)).toArray), (28, .agg (enc_api_Final (⟨1, (vset (Vector.replicate 48 0) 0 t5)⟩ : api_Final)).toArray)]) (by kernel_rfl) ?_
     have hS44 := hS11.pick1
     refine r_store (c := (cd23 [1, 1, 1, 0])) (i := 3) (d := none) (ty := 0) (t := 46) (x := (.tmp 4)) (y := (.tmp 28)) (b := b1) (o := 0) (e := 46) (cs := enc_api_Final (⟨0, (Vector.replicate 48 0)⟩ : api_Final)) (v := .agg (enc_api_Final (⟨1, (vset (Vector.replicate 48 0) 0 t5)⟩ : api_Final)).toArray) (vs := enc_api_Final (⟨1, (vset (Vector.replicate 48 0) 0 t5)⟩ : api_Final)) (cs' := enc_api_Final (⟨1, (vset (Vector.replicate 48 0) 0 t5)⟩ : api_Final)) hS44 (by kernel_rfl) (by kernel_rfl) (by kernel_rfl) (by kernel_rfl) (by kernel_rfl) (lenK (len_api_Final _) (by kernel_rfl)) (one_api_Final _) (by simp only [len_api_Final, List.length_cons, List.length_nil, List.length_append]; omega) (over_all ((len_api_Final _).trans (len_api_Final _).symm)) ?_
     intro w45 hS46
     refine sx_run 2 (todo' := [.code (cd23 [1, 1, 1, 1])]) (us := [(5, .bool true)]) (by kernel_rfl) ?_
     have hS47 := hS46.drop
     have hS48 := hS47.pick1
     refine runs_ret (fn := Try.f23) (v := .tuple #[.agg (enc_api_Final (⟨1, (vset (Vector.replicate 48 0) 0 t5)⟩ : api_Final)).toArray, .bool true]) Try.func23 (resl_run (fn := Try.f23) (by kernel_rfl) (.cell (t := 4) (ty := 46) (by kernel_rfl) (loads_agg (hS46.blk 0 rfl) (by kernel_rfl) (lenK (len_api_Final _) (by kernel_rfl))) (.tmp (t := 5) (by kernel_rfl) .nil))) ?_
     have hr49 := (Option.some.inj hp43)
     cases hr49
     exact hR _ _ ⟨rfl, hS48⟩

noncomputable def cd12 (p : List Nat) : Code := sub (bodyOf Try.f12) p
def script_Outcome.l0 (a0_0 : ByteArray) (a0_1 : Bool) (a0_1c0vc0v : weirlaw15_Graph) (a0_2 : Bool) (a0_3 : Bool) (a1 : List api_Pick) (t42 : ByteArray) (t43 : Int) : Option ByteArray :=
  (if (decide (t43 < (a1.length : Int))) = true then (if 0 ≤ t43 ∧ t43 < (a1.length : Int) then (script_step.f a0_0 a0_1 (⟨a0_1c0vc0v.To, a0_1c0vc0v.Ends, a0_1c0vc0v.Odd, a0_1c0vc0v.Holes⟩ : weirlaw15_Graph) a0_2 a0_3 t42 (gt a1 t43) >>= (fun (t68, t69) => (if t69 = true then (script_Outcome.l0 a0_0 a0_1 a0_1c0vc0v a0_2 a0_3 a1 t68 (IntKind.i64.wrap (t43 + 1))) else (script_Outcome.l0 a0_0 a0_1 a0_1c0vc0v a0_2 a0_3 a1 t42 (IntKind.i64.wrap (t43 + 1)))))) else none) else some (t42))
 partial_fixpoint
def script_Outcome.f (a0_0 : ByteArray) (a0_1 : Bool) (a0_1c0vc0v : weirlaw15_Graph) (a0_2 : Bool) (a0_3 : Bool) (a1 : List api_Pick) : Option (api_Final × Bool) :=
  (script_Outcome.l0 a0_0 a0_1 a0_1c0vc0v a0_2 a0_3 a1 a0_0 0 >>= (fun t12 => (if a0_3 = true then (weirlaw15_Graph__Machine_4.f t12 (⟨a0_1c0vc0v.To, a0_1c0vc0v.Ends, a0_1c0vc0v.Odd, a0_1c0vc0v.Holes⟩ : weirlaw15_Graph) >>= (fun (t26, t27) => some ((t26, t27)))) else some (((⟨0, (Vector.replicate 48 0)⟩ : api_Final), false)))))
set_option maxHeartbeats 16000000 in
theorem script_Outcome.ok (a0_0 : ByteArray) (a0_1 : Bool) (a0_1c0vc0v : weirlaw15_Graph) (a0_2 : Bool) (a0_3 : Bool) (a1 : List api_Pick) (ba0_1c0 : Nat) (ba0_1c0vc0 : Nat) (Aa0_1c0vc0v_0 : Option Addr) (ca0_1c0vc0v_0 : Nat) (Aa1 : Option Addr) (ca1 : Nat) {w0 : World} {Z : Zm} {fs : List XObj} {w : World} (hS0 : St w0 Z (xblk ba0_1c0 53 ([.func (.func 20) #[] #[.pointer (some ⟨ba0_1c0vc0, 0, none⟩)]]) :: xblk ba0_1c0vc0 25 ([.slice Aa0_1c0vc0v_0 a0_1c0vc0v.To.length ca0_1c0vc0v_0, .int .u64 a0_1c0vc0v.Ends, .bool a0_1c0vc0v.Odd, .int .i64 a0_1c0vc0v.Holes]) :: fs) w) (ha0_1c0vc0v_0 : SlZ (repL (flat (encI .i64)) 1) 1 Z Aa0_1c0vc0v_0 ca0_1c0vc0v_0 a0_1c0vc0v.To) (ha1 : SlZ (flat enc_api_Pick) 3 Z Aa1 ca1 a1) {q0 : api_Final} {q1 : Bool} (hp0 : script_Outcome.f a0_0 a0_1 a0_1c0vc0v a0_2 a0_3 a1 = some (q0, q1)) :
    Calls Try.prog 12 #[.agg #[.string a0_0, cond a0_1 (.func (.func 21) #[] #[.pointer (some ⟨ba0_1c0, 0, none⟩), .pointer (some ⟨ba0_1c0vc0, 0, none⟩)]) .nilFunc, cond a0_2 (.func (.func 22) #[] #[.pointer (some ⟨ba0_1c0, 0, none⟩), .pointer (some ⟨ba0_1c0vc0, 0, none⟩)]) .nilFunc, cond a0_3 (.func (.func 23) #[] #[.pointer (some ⟨ba0_1c0, 0, none⟩), .pointer (some ⟨ba0_1c0vc0, 0, none⟩)]) .nilFunc], .slice Aa1 a1.length ca1] w (fun e w' => e = .returned (.tuple #[.agg (enc_api_Final q0).toArray, .bool q1]) ∧ St w0 Z (xblk ba0_1c0 53 ([.func (.func 20) #[] #[.pointer (some ⟨ba0_1c0vc0, 0, none⟩)]]) :: xblk ba0_1c0vc0 25 ([.slice Aa0_1c0vc0v_0 a0_1c0vc0v.To.length ca0_1c0vc0v_0, .int .u64 a0_1c0vc0v.Ends, .bool a0_1c0vc0v.Odd, .int .i64 a0_1c0vc0v.Holes]) :: fs) w') := by
  refine calls_abs ?_; intro R hR
  unfold script_Outcome.f at hp0
  refine calls_of_runs (fn := Try.f12) (c := cd12 []) Try.func12 (by kernel_rfl) (al := [.agg #[.string a0_0, cond a0_1 (.func (.func 21) #[] #[.pointer (some ⟨ba0_1c0, 0, none⟩), .pointer (some ⟨ba0_1c0vc0, 0, none⟩)]) .nilFunc, cond a0_2 (.func (.func 22) #[] #[.pointer (some ⟨ba0_1c0, 0, none⟩), .pointer (some ⟨ba0_1c0vc0, 0, none⟩)]) .nilFunc, cond a0_3 (.func (.func 23) #[] #[.pointer (some ⟨ba0_1c0, 0, none⟩), .pointer (some ⟨ba0_1c0vc0, 0, none⟩)]) .nilFunc], .slice Aa1 a1.length ca1]) rfl (n := 37) rfl ?_
  refine sx_run 2 (todo' := [.inRegion (opsOf (cd12 [0])) [0, 1, 2], .code (cd12 [1])]) (us := []) (by kernel_rfl) ?_
  refine r_box (c := (cd12 [0])) (i := 0) (d := (some 2)) (ty := 0) (x := (.tmp 0)) (v := .agg #[.string a0_0, cond a0_1 (.func (.func 21) #[] #[.pointer (some ⟨ba0_1c0, 0, none⟩), .pointer (some ⟨ba0_1c0vc0, 0, none⟩)]) .nilFunc, cond a0_2 (.func (.func 22) #[] #[.pointer (some ⟨ba0_1c0, 0, none⟩), .pointer (some ⟨ba0_1c0vc0, 0, none⟩)]) .nilFunc, cond a0_3 (.func (.func 23) #[] #[.pointer (some ⟨ba0_1c0, 0, none⟩), .pointer (some ⟨ba0_1c0vc0, 0, none⟩)]) .nilFunc]) (t := 31) (cs := [.string a0_0, cond a0_1 (.func (.func 21) #[] #[.pointer (some ⟨ba0_1c0, 0, none⟩), .pointer (some ⟨ba0_1c0vc0, 0, none⟩)]) .nilFunc, cond a0_2 (.func (.func 22) #[] #[.pointer (some ⟨ba0_1c0, 0, none⟩), .pointer (some ⟨ba0_1c0vc0, 0, none⟩)]) .nilFunc, cond a0_3 (.func (.func 23) #[] #[.pointer (some ⟨ba0_1c0, 0, none⟩), .pointer (some ⟨ba0_1c0vc0, 0, none⟩)]) .nilFunc]) hS0 (by kernel_rfl) (by kernel_rfl) (by kernel_rfl) (by kernel_rfl) ?_
  intro b1 w2 hS3
  refine r_alloc (c := (cd12 [0])) (i := 1) (d := (some 4)) (ty := 0) (z := .agg (enc_api_Final (⟨0, (Vector.replicate 48 0)⟩ : api_Final)).toArray) (t := 46) (cs := enc_api_Final (⟨0, (Vector.replicate 48 0)⟩ : api_Final)) hS3 (by kernel_rfl) (by kernel_rfl) (by kernel_rfl) (by kernel_rfl) ?_
  intro b5 w6 hS7
  refine sx_run 5 (todo' := [.inRegion (opsOf (cd12 [1, 0])) [1, 2], .code (cd12 [1, 1])]) (us := [(5, .bool false), (11, .pointer (some ⟨b1, 0, none⟩))]) (by kernel_rfl) ?_
  refine r_load (c := (cd12 [1, 0])) (i := 1) (d := (some 12)) (ty := 9) (t := 9) (x := (.tmp 11)) (p := ⟨b1, 0, none⟩) (v := .string a0_0) (by kernel_rfl) (by kernel_rfl) (by kernel_rfl) (loads_at 0 (hS7.blk 1 rfl) (by kernel_rfl) (by kernel_rfl)) ?_
  refine sx_run 11 (todo' := [.code (cd12 [1, 1, 0, 1, 0, 0]), .inLoop (cd12 [1, 1, 0, 1, 0, 0]), .inBlock 0, .code (cd12 [1, 1, 1])]) (us := [(6, .string a0_0), (13, .slice Aa1 a1.length ca1), (14, .int .i64 (a1.length : Int)), (15, .int .i64 0)]) (by kernel_rfl) ?_
  obtain ⟨v9, hv10, hp11⟩ := bind_some' hp0
  have J15 : ∀ (t12 : ByteArray) (he17 : t12 = v9) (l16 : List Value) (w13 : World) (hS14 : St w0 Z (xblk b1 31 ([.string a0_0, cond a0_1 (.func (.func 21) #[] #[.pointer (some ⟨ba0_1c0, 0, none⟩), .pointer (some ⟨ba0_1c0vc0, 0, none⟩)]) .nilFunc, cond a0_2 (.func (.func 22) #[] #[.pointer (some ⟨ba0_1c0, 0, none⟩), .pointer (some ⟨ba0_1c0vc0, 0, none⟩)]) .nilFunc, cond a0_3 (.func (.func 23) #[] #[.pointer (some ⟨ba0_1c0, 0, none⟩), .pointer (some ⟨ba0_1c0vc0, 0, none⟩)]) .nilFunc]) :: xblk ba0_1c0 53 ([.func (.func 20) #[] #[.pointer (some ⟨ba0_1c0vc0, 0, none⟩)]]) :: xblk ba0_1c0vc0 25 ([.slice Aa0_1c0vc0v_0 a0_1c0vc0v.To.length ca0_1c0vc0v_0, .int .u64 a0_1c0vc0v.Ends, .bool a0_1c0vc0v.Odd, .int .i64 a0_1c0vc0v.Holes]) :: xblk b5 46 (enc_api_Final (⟨0, (Vector.replicate 48 0)⟩ : api_Final)) :: fs) w13), Runs Try.prog 12 [.code (cd12 [1, 1, 1])] (fill [none, none, some (.pointer (some ⟨b1, 0, none⟩)), none, some (.pointer (some ⟨b5, 0, none⟩)), none, some (.string t12), none, none, none, none, none, none, none, none, none, none, none, none, none, none, none, none, none, none, none, none, none, none, none, none, none, none, none, none, none, none, none, none] l16) w13 R := by
   intro t12 he17 l16 w13 hS14
   subst he17
   try dsimp only at hp11
   refine sx_run 4 (todo' := [.inRegion (opsOf (cd12 [1, 1, 1, 0, 0])) [1, 2], .code (cd12 [1, 1, 1, 0, 1]), .code (cd12 [1, 1, 1, 1])]) (us := [(29, .pointer (some ⟨b1, 3, none⟩))]) (by kernel_rfl) ?_
   refine r_load (c := (cd12 [1, 1, 1, 0, 0])) (i := 1) (d := (some 30)) (ty := 29) (t := 29) (x := (.tmp 29)) (p := ⟨b1, 3, none⟩) (v := cond a0_3 (.func (.func 23) #[] #[.pointer (some ⟨ba0_1c0, 0, none⟩), .pointer (some ⟨ba0_1c0vc0, 0, none⟩)]) .nilFunc) (by kernel_rfl) (by kernel_rfl) (by kernel_rfl) (loads_at 3 (hS14.blk 0 rfl) (by kernel_rfl) (by kernel_rfl)) ?_
   cases a0_3
   ·skip
    have hp18 := ite_f hp11 rfl
    refine sx_run 6 (todo' := [.inRegion (opsOf (cd12 [1, 1, 1, 0, 1, 0, 0])) [1, 2], .code (cd12 [1, 1, 1, 0, 1, 0, 1]), .code (cd12 [1, 1, 1, 1])]) (us := [(31, .bool true), (32, .agg (enc_api_Final (⟨0, (Vector.replicate 48 0)⟩ : api_Final)).toArray)]) (by kernel_rfl) ?_
    have hS19 := hS14.pick3
    refine r_store (c := (cd12 [1, 1, 1, 0, 1, 0, 0])) (i := 1) (d := none) (ty := 0) (t := 46) (x := (.tmp 4)) (y := (.tmp 32)) (b := b5) (o := 0) (e := 46) (cs := enc_api_Final (⟨0, (Vector.replicate 48 0)⟩ : api_Final)) (v := .agg (enc_api_Final (⟨0, (Vector.replicate 48 0)⟩ : api_Final)).toArray) (vs := enc_api_Final (⟨0, (Vector.replicate 48 0)⟩ : api_Final)) (cs' := enc_api_Final (⟨0, (Vector.replicate 48 0)⟩ : api_Final)) hS19 (by kernel_rfl) (by kernel_rfl) (by kernel_rfl) (by kernel_rfl) (by kernel_rfl) (lenK (len_api_Final _) (by kernel_rfl)) (one_api_Final _) (by simp only [len_api_Final, List.length_cons, List.length_nil, List.length_append]; omega) (over_all ((len_api_Final _).trans (len_api_Final _).symm)) ?_
    intro w20 hS21
    refine sx_run 2 (todo' := [.code (cd12 [1, 1, 1, 0, 1, 0, 1]), .code (cd12 [1, 1, 1, 1])]) (us := [(5, .bool false)]) (by kernel_rfl) ?_
    have hS22 := hS21.drop
    have hS23 := hS22.drop
    refine runs_ret (fn := Try.f12) (v := .tuple #[.agg (enc_api_Final (⟨0, (Vector.replicate 48 0)⟩ : api_Final)).toArray, .bool false]) Try.func12 (resl_run (fn := Try.f12) (by kernel_rfl) (.cell (t := 4) (ty := 46) (by kernel_rfl) (loads_agg (hS21.blk 0 rfl) (by kernel_rfl) (lenK (len_api_Final _) (by kernel_rfl))) (.tmp (t := 5) (by kernel_rfl) .nil))) ?_
    have hr24 := (Option.some.inj hp18)
    cases hr24
    exact hR _ _ ⟨rfl, hS23⟩
   ·skip
    have hp25 := ite_t hp11 rfl
    refine sx_run 7 (todo' := [.inRegion (opsOf (cd12 [1, 1, 1, 1, 0])) [1, 2, 3, 4, 5, 6, 7], .code (cd12 [1, 1, 1, 1, 1])]) (us := [(31, .bool false), (33, .pointer (some ⟨b1, 3, none⟩))]) (by kernel_rfl) ?_
    refine r_load (c := (cd12 [1, 1, 1, 1, 0])) (i := 1) (d := (some 34)) (ty := 29) (t := 29) (x := (.tmp 33)) (p := ⟨b1, 3, none⟩) (v := .func (.func 23) #[] #[.pointer (some ⟨ba0_1c0, 0, none⟩), .pointer (some ⟨ba0_1c0vc0, 0, none⟩)]) (by kernel_rfl) (by kernel_rfl) (by kernel_rfl) (loads_at 3 (hS14.blk 0 rfl) (by kernel_rfl) (by kernel_rfl)) ?_
    refine sx_run 1 (todo' := [.inRegion (opsOf (cd12 [1, 1, 1, 1, 0])) [3, 4, 5, 6, 7], .code (cd12 [1, 1, 1, 1, 1])]) (us := [(35, .string t12)]) (by kernel_rfl) ?_
    obtain ⟨⟨t26, t27⟩, hr28, hp29⟩ := bind_some' hp25
    try dsimp only at hp29
    have hS31 := hS14.pick2
    have hS32 := hS31.pick2
    refine r_call1 (c := (cd12 [1, 1, 1, 1, 0])) (i := 3) (d := (some 36)) (g := 23) (args := #[.string t12, .pointer (some ⟨ba0_1c0, 0, none⟩), .pointer (some ⟨ba0_1c0vc0, 0, none⟩)]) (by kernel_rfl) (by kernel_rfl) (by kernel_rfl) (by kernel_rfl) (weirlaw15_Graph__Machine_4.ok t12 (⟨a0_1c0vc0v.To, a0_1c0vc0v.Ends, a0_1c0vc0v.Odd, a0_1c0vc0v.Holes⟩ : weirlaw15_Graph) ba0_1c0 ba0_1c0vc0 Aa0_1c0vc0v_0 ca0_1c0vc0v_0 hS32 ha0_1c0vc0v_0 hr28) ?_
    rintro _ w33 ⟨rfl, hS34⟩
    refine ⟨.tuple #[.agg (enc_api_Final t26).toArray, .bool t27], rfl, ?_⟩
    refine sx_run 2 (todo' := [.inRegion (opsOf (cd12 [1, 1, 1, 1, 0])) [6, 7], .code (cd12 [1, 1, 1, 1, 1])]) (us := [(37, .agg (enc_api_Final t26).toArray), (38, .bool t27)]) (by kernel_rfl) ?_
    have hS35 := hS34.pick3
    refine r_store (c := (cd12 [1, 1, 1, 1, 0])) (i := 6) (d := none) (ty := 0) (t := 46) (x := (.tmp 4)) (y := (.tmp 37)) (b := b5) (o := 0) (e := 46) (cs := enc_api_Final (⟨0, (Vector.replicate 48 0)⟩ : api_Final)) (v := .agg (enc_api_Final t26).toArray) (vs := enc_api_Final t26) (cs' := enc_api_Final t26) hS35 (by kernel_rfl) (by kernel_rfl) (by kernel_rfl) (by kernel_rfl) (by kernel_rfl) (lenK (len_api_Final _) (by kernel_rfl)) (one_api_Final _) (by simp only [len_api_Final, List.length_cons, List.length_nil, List.length_append]; omega) (over_all ((len_api_Final _).trans (len_api_Final _).symm)) ?_
    intro w36 hS37
    refine sx_run 2 (todo' := [.code (cd12 [1, 1, 1, 1, 1])]) (us := [(5, .bool t27)]) (by kernel_rfl) ?_
    have hS38 := hS37.drop
    have hS39 := hS38.pick2
    have hS40 := hS39.drop
    refine runs_ret (fn := Try.f12) (v := .tuple #[.agg (enc_api_Final t26).toArray, .bool t27]) Try.func12 (resl_run (fn := Try.f12) (by kernel_rfl) (.cell (t := 4) (ty := 46) (by kernel_rfl) (loads_agg (hS37.blk 0 rfl) (by kernel_rfl) (lenK (len_api_Final _) (by kernel_rfl))) (.tmp (t := 5) (by kernel_rfl) .nil))) ?_
    have hr41 := (Option.some.inj hp29)
    cases hr41
    exact hR _ _ ⟨rfl, hS40⟩
  have L52 : ∀ (t42 : ByteArray) (t43 : Int) (e47 : ByteArray), script_Outcome.l0 a0_0 a0_1 a0_1c0vc0v a0_2 a0_3 a1 t42 t43 = some e47 → e47 = v9 → ∀ (l46 : List Value) (w44 : World) (hS45 : St w0 Z (xblk b1 31 ([.string a0_0, cond a0_1 (.func (.func 21) #[] #[.pointer (some ⟨ba0_1c0, 0, none⟩), .pointer (some ⟨ba0_1c0vc0, 0, none⟩)]) .nilFunc, cond a0_2 (.func (.func 22) #[] #[.pointer (some ⟨ba0_1c0, 0, none⟩), .pointer (some ⟨ba0_1c0vc0, 0, none⟩)]) .nilFunc, cond a0_3 (.func (.func 23) #[] #[.pointer (some ⟨ba0_1c0, 0, none⟩), .pointer (some ⟨ba0_1c0vc0, 0, none⟩)]) .nilFunc]) :: xblk ba0_1c0 53 ([.func (.func 20) #[] #[.pointer (some ⟨ba0_1c0vc0, 0, none⟩)]]) :: xblk ba0_1c0vc0 25 ([.slice Aa0_1c0vc0v_0 a0_1c0vc0v.To.length ca0_1c0vc0v_0, .int .u64 a0_1c0vc0v.Ends, .bool a0_1c0vc0v.Odd, .int .i64 a0_1c0vc0v.Holes]) :: xblk b5 46 (enc_api_Final (⟨0, (Vector.replicate 48 0)⟩ : api_Final)) :: fs) w44), Runs Try.prog 12 [.code (cd12 [1, 1, 0, 1, 0, 0]), .inLoop (cd12 [1, 1, 0, 1, 0, 0]), .inBlock 0, .code (cd12 [1, 1, 1])] (fill [none, none, some (.pointer (some ⟨b1, 0, none⟩)), none, some (.pointer (some ⟨b5, 0, none⟩)), none, some (.string t42), none, none, none, none, none, none, some (.slice Aa1 a1.length ca1), some (.int .i64 (a1.length : Int)), some (.int .i64 t43), none, none, none, none, none, none, none, none, none, none, none, none, none, none, none, none, none, none, none, none, none, none, none] l46) w44 R := by
   refine script_Outcome.l0.partial_correctness a0_0 a0_1 a0_1c0vc0v a0_2 a0_3 a1 (fun t42 t43 e47 => e47 = v9 → ∀ (l46 : List Value) (w44 : World) (hS45 : St w0 Z (xblk b1 31 ([.string a0_0, cond a0_1 (.func (.func 21) #[] #[.pointer (some ⟨ba0_1c0, 0, none⟩), .pointer (some ⟨ba0_1c0vc0, 0, none⟩)]) .nilFunc, cond a0_2 (.func (.func 22) #[] #[.pointer (some ⟨ba0_1c0, 0, none⟩), .pointer (some ⟨ba0_1c0vc0, 0, none⟩)]) .nilFunc, cond a0_3 (.func (.func 23) #[] #[.pointer (some ⟨ba0_1c0, 0, none⟩), .pointer (some ⟨ba0_1c0vc0, 0, none⟩)]) .nilFunc]) :: xblk ba0_1c0 53 ([.func (.func 20) #[] #[.pointer (some ⟨ba0_1c0vc0, 0, none⟩)]]) :: xblk ba0_1c0vc0 25 ([.slice Aa0_1c0vc0v_0 a0_1c0vc0v.To.length ca0_1c0vc0v_0, .int .u64 a0_1c0vc0v.Ends, .bool a0_1c0vc0v.Odd, .int .i64 a0_1c0vc0v.Holes]) :: xblk b5 46 (enc_api_Final (⟨0, (Vector.replicate 48 0)⟩ : api_Final)) :: fs) w44), Runs Try.prog 12 [.code (cd12 [1, 1, 0, 1, 0, 0]), .inLoop (cd12 [1, 1, 0, 1, 0, 0]), .inBlock 0, .code (cd12 [1, 1, 1])] (fill [none, none, some (.pointer (some ⟨b1, 0, none⟩)), none, some (.pointer (some ⟨b5, 0, none⟩)), none, some (.string t42), none, none, none, none, none, none, some (.slice Aa1 a1.length ca1), some (.int .i64 (a1.length : Int)), some (.int .i64 t43), none, none, none, none, none, none, none, none, none, none, none, none, none, none, none, none, none, none, none, none, none, none, none] l46) w44 R) ?_
   intro rec51 ih50 t42 t43 e47 hb49 he48 l46 w44 hS45
   refine sx_split 3 (todo' := [.inRegion (opsOf (cd12 [1, 1, 0, 1, 0, 0, 0])) [], .code (cd12 [1, 1, 0, 1, 0, 0, 1]), .inLoop (cd12 [1, 1, 0, 1, 0, 0]), .inBlock 0, .code (cd12 [1, 1, 1])]) (us := []) (d := 16) (t := (decide (t43 < (a1.length : Int)))) (by kernel_rfl) (fun h53 => ?_) (fun h54 => ?_)
   ·skip
    have hp55 := ite_t hb49 h53
    refine sx_run 8 (todo' := [.inRegion (opsOf (cd12 [1, 1, 0, 1, 0, 0, 1, 1, 0, 0, 0])) [0, 1, 2, 3], .code (cd12 [1, 1, 0, 1, 0, 0, 1, 1, 0, 0, 1]), .inBlock 1, .code (cd12 [1, 1, 0, 1, 0, 0, 1, 1, 1]), .inLoop (cd12 [1, 1, 0, 1, 0, 0]), .inBlock 0, .code (cd12 [1, 1, 1])]) (us := []) (by kernel_rfl) ?_
    obtain ⟨g56, hp57⟩ := ite_some hp55
    obtain ⟨b58, p59, hA60, hc61⟩ := ha1.atF g56.1 g56.2
    refine r_indexAddr (c := (cd12 [1, 1, 0, 1, 0, 0, 1, 1, 0, 0, 0])) (i := 0) (d := (some 17)) (ty := 0) (t := 33) (e := 39) (n := a1.length) (cp := ca1) (sz := 3) (kk := .i64) (x := (.tmp 13)) (y := (.tmp 15)) (b := b58) (o' := p59) (j := t43) (by kernel_rfl) (by kernel_rfl) (slv (by kernel_rfl) hA60) (by kernel_rfl) (by kernel_rfl) (by kernel_rfl) g56.1 g56.2 ?_
    refine r_load (c := (cd12 [1, 1, 0, 1, 0, 0, 1, 1, 0, 0, 0])) (i := 1) (d := (some 18)) (ty := 39) (t := 39) (x := (.tmp 17)) (p := ⟨b58, p59 + t43.toNat * 3, none⟩) (v := .agg (enc_api_Pick (gt a1 t43)).toArray) (by kernel_rfl) (by kernel_rfl) (by kernel_rfl) (loads_agg (hc61.cells hS45) (by kernel_rfl) (by kernel_rfl)) ?_
    refine r_alloc (c := (cd12 [1, 1, 0, 1, 0, 0, 1, 1, 0, 0, 0])) (i := 2) (d := (some 8)) (ty := 0) (z := .agg (enc_api_Pick (⟨0, 0, 0⟩ : api_Pick)).toArray) (t := 39) (cs := enc_api_Pick (⟨0, 0, 0⟩ : api_Pick)) hS45 (by kernel_rfl) (by kernel_rfl) (by kernel_rfl) (by kernel_rfl) ?_
    intro b62 w63 hS64
    refine r_store (c := (cd12 [1, 1, 0, 1, 0, 0, 1, 1, 0, 0, 0])) (i := 3) (d := none) (ty := 0) (t := 39) (x := (.tmp 8)) (y := (.tmp 18)) (b := b62) (o := 0) (e := 39) (cs := enc_api_Pick (⟨0, 0, 0⟩ : api_Pick)) (v := .agg (enc_api_Pick (gt a1 t43)).toArray) (vs := enc_api_Pick (gt a1 t43)) (cs' := enc_api_Pick (gt a1 t43)) hS64 (by kernel_rfl) (by kernel_rfl) (by kernel_rfl) (by kernel_rfl) (by kernel_rfl) (by kernel_rfl) (one_api_Pick _) (Nat.le_of_ble_eq_true (by kernel_rfl)) (by kernel_rfl) ?_
    intro w66 hS67
    refine sx_run 3 (todo' := [.inRegion (opsOf (cd12 [1, 1, 0, 1, 0, 0, 1, 1, 0, 0, 1, 0])) [0, 1, 2, 3, 4, 5, 6, 7, 8], .code (cd12 [1, 1, 0, 1, 0, 0, 1, 1, 0, 0, 1, 1]), .inBlock 1, .code (cd12 [1, 1, 0, 1, 0, 0, 1, 1, 1]), .inLoop (cd12 [1, 1, 0, 1, 0, 0]), .inBlock 0, .code (cd12 [1, 1, 1])]) (us := []) (by kernel_rfl) ?_
    refine r_load (c := (cd12 [1, 1, 0, 1, 0, 0, 1, 1, 0, 0, 1, 0])) (i := 0) (d := (some 20)) (ty := 31) (t := 31) (x := (.tmp 2)) (p := ⟨b1, 0, none⟩) (v := .agg #[.string a0_0, cond a0_1 (.func (.func 21) #[] #[.pointer (some ⟨ba0_1c0, 0, none⟩), .pointer (some ⟨ba0_1c0vc0, 0, none⟩)]) .nilFunc, cond a0_2 (.func (.func 22) #[] #[.pointer (some ⟨ba0_1c0, 0, none⟩), .pointer (some ⟨ba0_1c0vc0, 0, none⟩)]) .nilFunc, cond a0_3 (.func (.func 23) #[] #[.pointer (some ⟨ba0_1c0, 0, none⟩), .pointer (some ⟨ba0_1c0vc0, 0, none⟩)]) .nilFunc]) (by kernel_rfl) (by kernel_rfl) (by kernel_rfl) (loads_agg (hS67.blk 1 rfl) (by kernel_rfl) (by kernel_rfl)) ?_
    refine sx_run 1 (todo' := [.inRegion (opsOf (cd12 [1, 1, 0, 1, 0, 0, 1, 1, 0, 0, 1, 0])) [2, 3, 4, 5, 6, 7, 8], .code (cd12 [1, 1, 0, 1, 0, 0, 1, 1, 0, 0, 1, 1]), .inBlock 1, .code (cd12 [1, 1, 0, 1, 0, 0, 1, 1, 1]), .inLoop (cd12 [1, 1, 0, 1, 0, 0]), .inBlock 0, .code (cd12 [1, 1, 1])]) (us := [(21, .string t42)]) (by kernel_rfl) ?_
    refine r_load (c := (cd12 [1, 1, 0, 1, 0, 0, 1, 1, 0, 0, 1, 0])) (i := 2) (d := (some 22)) (ty := 39) (t := 39) (x := (.tmp 8)) (p := ⟨b62, 0, none⟩) (v := .agg (enc_api_Pick (gt a1 t43)).toArray) (by kernel_rfl) (by kernel_rfl) (by kernel_rfl) (loads_agg (hS67.blk 0 rfl) (by kernel_rfl) (by kernel_rfl)) ?_
    obtain ⟨⟨t68, t69⟩, hr70, hp71⟩ := bind_some' hp57
    try dsimp only at hp71
    have hS73 := hS67.pick3
    have hS74 := hS73.pick3
    refine r_call1 (c := (cd12 [1, 1, 0, 1, 0, 0, 1, 1, 0, 0, 1, 0])) (i := 3) (d := (some 23)) (g := 24) (args := #[.agg #[.string a0_0, cond a0_1 (.func (.func 21) #[] #[.pointer (some ⟨ba0_1c0, 0, none⟩), .pointer (some ⟨ba0_1c0vc0, 0, none⟩)]) .nilFunc, cond a0_2 (.func (.func 22) #[] #[.pointer (some ⟨ba0_1c0, 0, none⟩), .pointer (some ⟨ba0_1c0vc0, 0, none⟩)]) .nilFunc, cond a0_3 (.func (.func 23) #[] #[.pointer (some ⟨ba0_1c0, 0, none⟩), .pointer (some ⟨ba0_1c0vc0, 0, none⟩)]) .nilFunc], .string t42, .agg (enc_api_Pick (gt a1 t43)).toArray]) (by kernel_rfl) (by kernel_rfl) (by kernel_rfl) (by kernel_rfl) (script_step.ok a0_0 a0_1 (⟨a0_1c0vc0v.To, a0_1c0vc0v.Ends, a0_1c0vc0v.Odd, a0_1c0vc0v.Holes⟩ : weirlaw15_Graph) a0_2 a0_3 t42 (gt a1 t43) ba0_1c0 ba0_1c0vc0 Aa0_1c0vc0v_0 ca0_1c0vc0v_0 hS74 ha0_1c0vc0v_0 hr70) ?_
    rintro _ w75 ⟨rfl, hS76⟩
    refine ⟨.tuple #[.string t68, .bool t69], rfl, ?_⟩
    refine sx_run 10 (todo' := [.code (cd12 [1, 1, 0, 1, 0, 0, 1, 1, 0, 0, 1, 1, 1]), .inBlock 1, .code (cd12 [1, 1, 0, 1, 0, 0, 1, 1, 1]), .inLoop (cd12 [1, 1, 0, 1, 0, 0]), .inBlock 0, .code (cd12 [1, 1, 1])]) (us := [(19, .tuple #[.string t68, .bool t69]), (24, .string t68), (25, .bool t69), (9, .string t68), (10, .bool t69), (26, .bool t69)]) (by kernel_rfl) ?_
    cases t69
    ·skip
     have hp77 := ite_f hp71 rfl
     refine sx_run 7 (todo' := [.inLoop (cd12 [1, 1, 0, 1, 0, 0]), .inBlock 0, .code (cd12 [1, 1, 1])]) (us := [(28, .int .i64 (IntKind.i64.wrap (t43 + 1))), (15, .int .i64 (IntKind.i64.wrap (t43 + 1)))]) (by kernel_rfl) ?_
     have hS78 := hS76.pick2
     have hS79 := hS78.drop
     have hS80 := hS79.pick3
     have hS81 := hS80.pick2
     have hS82 := hS81.pick2
     have hS83 := hS82.pick3
     refine sx_run 1 (todo' := [.code (cd12 [1, 1, 0, 1, 0, 0]), .inLoop (cd12 [1, 1, 0, 1, 0, 0]), .inBlock 0, .code (cd12 [1, 1, 1])]) (us := []) (by kernel_rfl) ?_
     refine Runs.fill (m := [none, none, some (.pointer (some ⟨b1, 0, none⟩)), none, some (.pointer (some ⟨b5, 0, none⟩)), none, some (.string t42), none, none, none, none, none, none, some (.slice Aa1 a1.length ca1), some (.int .i64 (a1.length : Int)), some (.int .i64 (IntKind.i64.wrap (t43 + 1))), none, none, none, none, none, none, none, none, none, none, none, none, none, none, none, none, none, none, none, none, none, none, none]) (by kernel_rfl) ?_
     exact ih50 t42 (IntKind.i64.wrap (t43 + 1)) _ hp77 he48 _ _ hS83
    ·skip
     have hp84 := ite_t hp71 rfl
     refine sx_run 10 (todo' := [.inLoop (cd12 [1, 1, 0, 1, 0, 0]), .inBlock 0, .code (cd12 [1, 1, 1])]) (us := [(27, .string t68), (6, .string t68), (28, .int .i64 (IntKind.i64.wrap (t43 + 1))), (15, .int .i64 (IntKind.i64.wrap (t43 + 1)))]) (by kernel_rfl) ?_
     have hS85 := hS76.pick2
     have hS86 := hS85.drop
     have hS87 := hS86.pick3
     have hS88 := hS87.pick2
     have hS89 := hS88.pick2
     have hS90 := hS89.pick3
     refine sx_run 1 (todo' := [.code (cd12 [1, 1, 0, 1, 0, 0]), .inLoop (cd12 [1, 1, 0, 1, 0, 0]), .inBlock 0, .code (cd12 [1, 1, 1])]) (us := []) (by kernel_rfl) ?_
     refine Runs.fill (m := [none, none, some (.pointer (some ⟨b1, 0, none⟩)), none, some (.pointer (some ⟨b5, 0, none⟩)), none, some (.string t68), none, none, none, none, none, none, some (.slice Aa1 a1.length ca1), some (.int .i64 (a1.length : Int)), some (.int .i64 (IntKind.i64.wrap (t43 + 1))), none, none, none, none, none, none, none, none, none, none, none, none, none, none, none, none, none, none, none, none, none, none, none]) (by kernel_rfl) ?_
     exact ih50 t68 (IntKind.i64.wrap (t43 + 1)) _ hp84 he48 _ _ hS90
   ·skip
    have hp91 := ite_f hb49 h54
    refine sx_run 4 (todo' := [.code (cd12 [1, 1, 1])]) (us := []) (by kernel_rfl) ?_
    refine Runs.fill (m := [none, none, some (.pointer (some ⟨b1, 0, none⟩)), none, some (.pointer (some ⟨b5, 0, none⟩)), none, some (.string t42), none, none, none, none, none, none, none, none, none, none, none, none, none, none, none, none, none, none, none, none, none, none, none, none, none, none, none, none, none, none, none, none]) (by kernel_rfl) ?_
    exact J15 t42 ((Option.some.inj hp91).trans he48) _ _ hS45
  have hS92 := hS7.pick3
  have hS93 := hS92.pick3
  have hS94 := hS93.pick3
  refine Runs.fill (m := [none, none, some (.pointer (some ⟨b1, 0, none⟩)), none, some (.pointer (some ⟨b5, 0, none⟩)), none, some (.string a0_0), none, none, none, none, none, none, some (.slice Aa1 a1.length ca1), some (.int .i64 (a1.length : Int)), some (.int .i64 0), none, none, none, none, none, none, none, none, none, none, none, none, none, none, none, none, none, none, none, none, none, none, none]) (by kernel_rfl) ?_
  exact L52 a0_0 0 _ hv10 rfl _ _ hS94

noncomputable def cd25 (p : List Nat) : Code := sub (bodyOf Try.f25) p
def weirref15_end.f (a0_0 : ByteArray) (a0_1 : Bool) (a0_1c0vc0v : weirlaw15_Graph) (a0_2 : Bool) (a0_3 : Bool) (a1 : ByteArray) : Option (api_Final × Bool) :=
  (if a0_3 = true then (weirlaw15_Graph__Machine_4.f a1 (⟨a0_1c0vc0v.To, a0_1c0vc0v.Ends, a0_1c0vc0v.Odd, a0_1c0vc0v.Holes⟩ : weirlaw15_Graph) >>= (fun (t16, t17) => some ((t16, t17)))) else some (((⟨0, (Vector.replicate 48 0)⟩ : api_Final), false)))
set_option maxHeartbeats 16000000 in
theorem weirref15_end.ok (a0_0 : ByteArray) (a0_1 : Bool) (a0_1c0vc0v : weirlaw15_Graph) (a0_2 : Bool) (a0_3 : Bool) (a1 : ByteArray) (ba0_1c0 : Nat) (ba0_1c0vc0 : Nat) (Aa0_1c0vc0v_0 : Option Addr) (ca0_1c0vc0v_0 : Nat) {w0 : World} {Z : Zm} {fs : List XObj} {w : World} (hS0 : St w0 Z (xblk ba0_1c0 53 ([.func (.func 20) #[] #[.pointer (some ⟨ba0_1c0vc0, 0, none⟩)]]) :: xblk ba0_1c0vc0 25 ([.slice Aa0_1c0vc0v_0 a0_1c0vc0v.To.length ca0_1c0vc0v_0, .int .u64 a0_1c0vc0v.Ends, .bool a0_1c0vc0v.Odd, .int .i64 a0_1c0vc0v.Holes]) :: fs) w) (ha0_1c0vc0v_0 : SlZ (repL (flat (encI .i64)) 1) 1 Z Aa0_1c0vc0v_0 ca0_1c0vc0v_0 a0_1c0vc0v.To) {q0 : api_Final} {q1 : Bool} (hp0 : weirref15_end.f a0_0 a0_1 a0_1c0vc0v a0_2 a0_3 a1 = some (q0, q1)) :
    Calls Try.prog 25 #[.agg #[.string a0_0, cond a0_1 (.func (.func 21) #[] #[.pointer (some ⟨ba0_1c0, 0, none⟩), .pointer (some ⟨ba0_1c0vc0, 0, none⟩)]) .nilFunc, cond a0_2 (.func (.func 22) #[] #[.pointer (some ⟨ba0_1c0, 0, none⟩), .pointer (some ⟨ba0_1c0vc0, 0, none⟩)]) .nilFunc, cond a0_3 (.func (.func 23) #[] #[.pointer (some ⟨ba0_1c0, 0, none⟩), .pointer (some ⟨ba0_1c0vc0, 0, none⟩)]) .nilFunc], .string a1] w (fun e w' => e = .returned (.tuple #[.agg (enc_api_Final q0).toArray, .bool q1]) ∧ St w0 Z (xblk ba0_1c0 53 ([.func (.func 20) #[] #[.pointer (some ⟨ba0_1c0vc0, 0, none⟩)]]) :: xblk ba0_1c0vc0 25 ([.slice Aa0_1c0vc0v_0 a0_1c0vc0v.To.length ca0_1c0vc0v_0, .int .u64 a0_1c0vc0v.Ends, .bool a0_1c0vc0v.Odd, .int .i64 a0_1c0vc0v.Holes]) :: fs) w') := by
  refine calls_abs ?_; intro R hR
  unfold weirref15_end.f at hp0
  refine calls_of_runs (fn := Try.f25) (c := cd25 []) Try.func25 (by kernel_rfl) (al := [.agg #[.string a0_0, cond a0_1 (.func (.func 21) #[] #[.pointer (some ⟨ba0_1c0, 0, none⟩), .pointer (some ⟨ba0_1c0vc0, 0, none⟩)]) .nilFunc, cond a0_2 (.func (.func 22) #[] #[.pointer (some ⟨ba0_1c0, 0, none⟩), .pointer (some ⟨ba0_1c0vc0, 0, none⟩)]) .nilFunc, cond a0_3 (.func (.func 23) #[] #[.pointer (some ⟨ba0_1c0, 0, none⟩), .pointer (some ⟨ba0_1c0vc0, 0, none⟩)]) .nilFunc], .string a1]) rfl (n := 14) rfl ?_
  refine sx_run 2 (todo' := [.inRegion (opsOf (cd25 [0])) [0, 1, 2], .code (cd25 [1])]) (us := []) (by kernel_rfl) ?_
  refine r_box (c := (cd25 [0])) (i := 0) (d := (some 2)) (ty := 0) (x := (.tmp 0)) (v := .agg #[.string a0_0, cond a0_1 (.func (.func 21) #[] #[.pointer (some ⟨ba0_1c0, 0, none⟩), .pointer (some ⟨ba0_1c0vc0, 0, none⟩)]) .nilFunc, cond a0_2 (.func (.func 22) #[] #[.pointer (some ⟨ba0_1c0, 0, none⟩), .pointer (some ⟨ba0_1c0vc0, 0, none⟩)]) .nilFunc, cond a0_3 (.func (.func 23) #[] #[.pointer (some ⟨ba0_1c0, 0, none⟩), .pointer (some ⟨ba0_1c0vc0, 0, none⟩)]) .nilFunc]) (t := 31) (cs := [.string a0_0, cond a0_1 (.func (.func 21) #[] #[.pointer (some ⟨ba0_1c0, 0, none⟩), .pointer (some ⟨ba0_1c0vc0, 0, none⟩)]) .nilFunc, cond a0_2 (.func (.func 22) #[] #[.pointer (some ⟨ba0_1c0, 0, none⟩), .pointer (some ⟨ba0_1c0vc0, 0, none⟩)]) .nilFunc, cond a0_3 (.func (.func 23) #[] #[.pointer (some ⟨ba0_1c0, 0, none⟩), .pointer (some ⟨ba0_1c0vc0, 0, none⟩)]) .nilFunc]) hS0 (by kernel_rfl) (by kernel_rfl) (by kernel_rfl) (by kernel_rfl) ?_
  intro b1 w2 hS3
  refine r_alloc (c := (cd25 [0])) (i := 1) (d := (some 4)) (ty := 0) (z := .agg (enc_api_Final (⟨0, (Vector.replicate 48 0)⟩ : api_Final)).toArray) (t := 46) (cs := enc_api_Final (⟨0, (Vector.replicate 48 0)⟩ : api_Final)) hS3 (by kernel_rfl) (by kernel_rfl) (by kernel_rfl) (by kernel_rfl) ?_
  intro b5 w6 hS7
  refine sx_run 6 (todo' := [.inRegion (opsOf (cd25 [1, 0, 0])) [1, 2], .code (cd25 [1, 0, 1]), .code (cd25 [1, 1])]) (us := [(5, .bool false), (6, .pointer (some ⟨b1, 3, none⟩))]) (by kernel_rfl) ?_
  refine r_load (c := (cd25 [1, 0, 0])) (i := 1) (d := (some 7)) (ty := 29) (t := 29) (x := (.tmp 6)) (p := ⟨b1, 3, none⟩) (v := cond a0_3 (.func (.func 23) #[] #[.pointer (some ⟨ba0_1c0, 0, none⟩), .pointer (some ⟨ba0_1c0vc0, 0, none⟩)]) .nilFunc) (by kernel_rfl) (by kernel_rfl) (by kernel_rfl) (loads_at 3 (hS7.blk 1 rfl) (by kernel_rfl) (by kernel_rfl)) ?_
  cases a0_3
  ·skip
   have hp9 := ite_f hp0 rfl
   refine sx_run 6 (todo' := [.inRegion (opsOf (cd25 [1, 0, 1, 0, 0])) [1, 2], .code (cd25 [1, 0, 1, 0, 1]), .code (cd25 [1, 1])]) (us := [(8, .bool true), (9, .agg (enc_api_Final (⟨0, (Vector.replicate 48 0)⟩ : api_Final)).toArray)]) (by kernel_rfl) ?_
   refine r_store (c := (cd25 [1, 0, 1, 0, 0])) (i := 1) (d := none) (ty := 0) (t := 46) (x := (.tmp 4)) (y := (.tmp 9)) (b := b5) (o := 0) (e := 46) (cs := enc_api_Final (⟨0, (Vector.replicate 48 0)⟩ : api_Final)) (v := .agg (enc_api_Final (⟨0, (Vector.replicate 48 0)⟩ : api_Final)).toArray) (vs := enc_api_Final (⟨0, (Vector.replicate 48 0)⟩ : api_Final)) (cs' := enc_api_Final (⟨0, (Vector.replicate 48 0)⟩ : api_Final)) hS7 (by kernel_rfl) (by kernel_rfl) (by kernel_rfl) (by kernel_rfl) (by kernel_rfl) (lenK (len_api_Final _) (by kernel_rfl)) (one_api_Final _) (by simp only [len_api_Final, List.length_cons, List.length_nil, List.length_append]; omega) (over_all ((len_api_Final _).trans (len_api_Final _).symm)) ?_
   intro w10 hS11
   refine sx_run 2 (todo' := [.code (cd25 [1, 0, 1, 0, 1]), .code (cd25 [1, 1])]) (us := [(5, .bool false)]) (by kernel_rfl) ?_
   have hS12 := hS11.drop
   have hS13 := hS12.drop
   refine runs_ret (fn := Try.f25) (v := .tuple #[.agg (enc_api_Final (⟨0, (Vector.replicate 48 0)⟩ : api_Final)).toArray, .bool false]) Try.func25 (resl_run (fn := Try.f25) (by kernel_rfl) (.cell (t := 4) (ty := 46) (by kernel_rfl) (loads_agg (hS11.blk 0 rfl) (by kernel_rfl) (lenK (len_api_Final _) (by kernel_rfl))) (.tmp (t := 5) (by kernel_rfl) .nil))) ?_
   have hr14 := (Option.some.inj hp9)
   cases hr14
   exact hR _ _ ⟨rfl, hS13⟩
  ·skip
   have hp15 := ite_t hp0 rfl
   refine sx_run 7 (todo' := [.inRegion (opsOf (cd25 [1, 1, 0])) [1, 2, 3, 4, 5, 6, 7], .code (cd25 [1, 1, 1])]) (us := [(8, .bool false), (10, .pointer (some ⟨b1, 3, none⟩))]) (by kernel_rfl) ?_
   refine r_load (c := (cd25 [1, 1, 0])) (i := 1) (d := (some 11)) (ty := 29) (t := 29) (x := (.tmp 10)) (p := ⟨b1, 3, none⟩) (v := .func (.func 23) #[] #[.pointer (some ⟨ba0_1c0, 0, none⟩), .pointer (some ⟨ba0_1c0vc0, 0, none⟩)]) (by kernel_rfl) (by kernel_rfl) (by kernel_rfl) (loads_at 3 (hS7.blk 1 rfl) (by kernel_rfl) (by kernel_rfl)) ?_
   refine sx_run 1 (todo' := [.inRegion (opsOf (cd25 [1, 1, 0])) [3, 4, 5, 6, 7], .code (cd25 [1, 1, 1])]) (us := [(12, .string a1)]) (by kernel_rfl) ?_
   obtain ⟨⟨t16, t17⟩, hr18, hp19⟩ := bind_some' hp15
   try dsimp only at hp19
   have hS21 := hS7.pick3
   have hS22 := hS21.pick3
   refine r_call1 (c := (cd25 [1, 1, 0])) (i := 3) (d := (some 13)) (g := 23) (args := #[.string a1, .pointer (some ⟨ba0_1c0, 0, none⟩), .pointer (some ⟨ba0_1c0vc0, 0, none⟩)]) (by kernel_rfl) (by kernel_rfl) (by kernel_rfl) (by kernel_rfl) (weirlaw15_Graph__Machine_4.ok a1 (⟨a0_1c0vc0v.To, a0_1c0vc0v.Ends, a0_1c0vc0v.Odd, a0_1c0vc0v.Holes⟩ : weirlaw15_Graph) ba0_1c0 ba0_1c0vc0 Aa0_1c0vc0v_0 ca0_1c0vc0v_0 hS22 ha0_1c0vc0v_0 hr18) ?_
   rintro _ w23 ⟨rfl, hS24⟩
   refine ⟨.tuple #[.agg (enc_api_Final t16).toArray, .bool t17], rfl, ?_⟩
   refine sx_run 2 (todo' := [.inRegion (opsOf (cd25 [1, 1, 0])) [6, 7], .code (cd25 [1, 1, 1])]) (us := [(14, .agg (enc_api_Final t16).toArray), (15, .bool t17)]) (by kernel_rfl) ?_
   have hS25 := hS24.pick2
   refine r_store (c := (cd25 [1, 1, 0])) (i := 6) (d := none) (ty := 0) (t := 46) (x := (.tmp 4)) (y := (.tmp 14)) (b := b5) (o := 0) (e := 46) (cs := enc_api_Final (⟨0, (Vector.replicate 48 0)⟩ : api_Final)) (v := .agg (enc_api_Final t16).toArray) (vs := enc_api_Final t16) (cs' := enc_api_Final t16) hS25 (by kernel_rfl) (by kernel_rfl) (by kernel_rfl) (by kernel_rfl) (by kernel_rfl) (lenK (len_api_Final _) (by kernel_rfl)) (one_api_Final _) (by simp only [len_api_Final, List.length_cons, List.length_nil, List.length_append]; omega) (over_all ((len_api_Final _).trans (len_api_Final _).symm)) ?_
   intro w26 hS27
   refine sx_run 2 (todo' := [.code (cd25 [1, 1, 1])]) (us := [(5, .bool t17)]) (by kernel_rfl) ?_
   have hS28 := hS27.drop
   have hS29 := hS28.pick2
   have hS30 := hS29.drop
   refine runs_ret (fn := Try.f25) (v := .tuple #[.agg (enc_api_Final t16).toArray, .bool t17]) Try.func25 (resl_run (fn := Try.f25) (by kernel_rfl) (.cell (t := 4) (ty := 46) (by kernel_rfl) (loads_agg (hS27.blk 0 rfl) (by kernel_rfl) (lenK (len_api_Final _) (by kernel_rfl))) (.tmp (t := 5) (by kernel_rfl) .nil))) ?_
   have hr31 := (Option.some.inj hp19)
   cases hr31
   exact hR _ _ ⟨rfl, hS30⟩

end
end Go.Proofs.Ytpmemdhgcelkoaa.K
