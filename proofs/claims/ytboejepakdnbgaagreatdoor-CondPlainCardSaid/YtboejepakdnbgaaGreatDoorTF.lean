/- The law's own trial: one text, read, written and reckoned. -/
import Derived.Test.YtboejepakdnbgaaGreatDoorTE
set_option linter.unusedVariables false
set_option linter.unusedSectionVars false
set_option linter.unusedSimpArgs false
set_option maxRecDepth 100000
namespace Go.Proofs.YtboejepakdnbgaaGreatDoor.K.C
open Go

def wS : ByteArray := ⟨#[48,58,69,65,88,61,48,32,47,92,32,126,40,120,61,49,32,92,47,32,91,121,93,61,48,120,49,48,41]⟩
def wX : List Tk := [⟨2, ⟨#[48]⟩, 0⟩, tk ⟨#[58]⟩, ⟨1, ⟨#[69,65,88]⟩, 0⟩, tk ⟨#[61]⟩, ⟨2, ⟨#[48]⟩, 0⟩, tk ⟨#[47,92]⟩, tk ⟨#[126]⟩, tk ⟨#[40]⟩, ⟨1, ⟨#[120]⟩, 0⟩, tk ⟨#[61]⟩, ⟨2, ⟨#[49]⟩, 1⟩, tk ⟨#[92,47]⟩, tk ⟨#[91]⟩, ⟨1, ⟨#[121]⟩, 0⟩, tk ⟨#[93]⟩, tk ⟨#[61]⟩, ⟨2, ⟨#[48,120,49,48]⟩, 16⟩, tk ⟨#[41]⟩]
theorem w_toks : Same (tT wS) wX ∧ tB wS = none := by
  unfold Same; decide +kernel
def wT : Cd := .and (.eq ⟨0, ⟨#[69,65,88]⟩⟩ 0) (.not (.or (.eq ⟨-1, ⟨#[120]⟩⟩ 1) (.eq ⟨-1, ⟨#[121]⟩⟩ 16)))
theorem w_gr {L : Toks} (hI : Is L 0 wX) (hk : ∀ x : ByteArray, sg L 18 4 x = false) : Gr L 2 wT 0 18 2 := by
  obtain ⟨⟨a0, -⟩, ⟨a1, -⟩, ⟨a2, -⟩, ⟨a3, -⟩, ⟨a4, v4⟩, ⟨a5, -⟩, ⟨a6, -⟩, ⟨a7, -⟩, ⟨a8, -⟩, ⟨a9, -⟩, ⟨a10, v10⟩, ⟨a11, -⟩, ⟨a12, -⟩, ⟨a13, -⟩, ⟨a14, -⟩, ⟨a15, -⟩, ⟨a16, v16⟩, ⟨a17, -⟩, -⟩ := hI
  have g0 := Gr.eqn (.th a0 (n := 0) (by decide +kernel) a1 ⟨a2, by decide +kernel⟩) a3 a4.1 a4.2.1
  have gx := Gr.eqn (.nm ⟨a8, by decide +kernel⟩) a9 a10.1 a10.2.1
  have gy := Gr.eqn (.br a12 ⟨a13, by decide +kernel⟩ a14) a15 a16.1 a16.2.1
  have v4' : (gt L ((3 + 1 : Nat) : Int)).Value = 0 := v4
  have v10' : (gt L ((9 + 1 : Nat) : Int)).Value = 1 := v10
  have v16' : (gt L ((15 + 1 : Nat) : Int)).Value = 16 := v16
  rw [v4'] at g0
  rw [v10'] at gx
  rw [v16'] at gy
  have go := Gr.or1 (.or0 (.and0 gx) (sg_x a11 (by decide))) a11 (.and0 gy) (sg_x a17 (by decide))
  have gn := Gr.not a6 (.par a7 go a17)
  exact .or0 (.and1 (.and0 g0) a5 gn) (hk _)
theorem w_parse : cond_Parse.f wS = some (wT.nodes 0, .nil) := by
  refine parse_gr (by decide) w_toks.1 w_toks.2 (fun L hI hk => w_gr hI hk) (by decide) (by decide)
theorem itoa0 : itoaB 0 = ⟨#[48]⟩ := by unfold itoaB Lib.itoa; simp [Lib.decDigits]
theorem itoa1 : itoaB 1 = ⟨#[49]⟩ := by unfold itoaB Lib.itoa; simp [Lib.decDigits]
theorem itoa16 : itoaB 16 = ⟨#[49, 54]⟩ := by unfold itoaB Lib.itoa; simp [Lib.decDigits]
theorem w_text : wT.text = ⟨#[48,58,69,65,88,61,48,32,47,92,32,126,40,120,61,49,32,92,47,32,121,61,49,54,41]⟩ := by
  simp only [wT, Cd.text, refB, itoa0, itoa1, itoa16]
  decide +kernel
theorem w_holds : cond_Holds.f (wT.nodes 0) = some (true, 0) := by
  have hc : cond_Check.f (wT.nodes 0) = some 0 := check_T (by decide +kernel) (by decide) (by decide)
  unfold cond_Holds.f
  rw [hc]
  have s0 : cond_Holds.l0 (wT.nodes 0) 0 [false, false, false, false, false, false] = cond_Holds.l0 (wT.nodes 0) 1 [true, false, false, false, false, false] := by rw [cond_Holds.l0]; rfl
  have s1 : cond_Holds.l0 (wT.nodes 0) 1 [true, false, false, false, false, false] = cond_Holds.l0 (wT.nodes 0) 2 [true, false, false, false, false, false] := by rw [cond_Holds.l0]; rfl
  have s2 : cond_Holds.l0 (wT.nodes 0) 2 [true, false, false, false, false, false] = cond_Holds.l0 (wT.nodes 0) 3 [true, false, false, false, false, false] := by rw [cond_Holds.l0]; rfl
  have s3 : cond_Holds.l0 (wT.nodes 0) 3 [true, false, false, false, false, false] = cond_Holds.l0 (wT.nodes 0) 4 [true, false, false, false, false, false] := by rw [cond_Holds.l0]; rfl
  have s4 : cond_Holds.l0 (wT.nodes 0) 4 [true, false, false, false, false, false] = cond_Holds.l0 (wT.nodes 0) 5 [true, false, false, false, true, false] := by rw [cond_Holds.l0]; rfl
  have s5 : cond_Holds.l0 (wT.nodes 0) 5 [true, false, false, false, true, false] = cond_Holds.l0 (wT.nodes 0) 6 [true, false, false, false, true, true] := by rw [cond_Holds.l0]; rfl
  have s6 : cond_Holds.l0 (wT.nodes 0) 6 [true, false, false, false, true, true] = some [true, false, false, false, true, true] := by rw [cond_Holds.l0]; rfl
  have hl : (wT.nodes 0).length = 6 := by decide
  have hr : List.replicate ((wT.nodes 0).length : Int).toNat false = [false, false, false, false, false, false] := by rw [hl]; rfl
  rw [hr, s0, s1, s2, s3, s4, s5, s6, hl]
  rfl
theorem works : weirlaw06_works.f = some true := by
  unfold weirlaw06_works.f
  have hp : cond_Parse.f (⟨#[48,58,69,65,88,61,48,32,47,92,32,126,40,120,61,49,32,92,47,32,91,121,93,61,48,120,49,48,41]⟩ : ByteArray) = _ := w_parse
  have ht := text_T (t := wT) (by decide +kernel) (by simp [wT, Cd.vals]) (by decide) (by decide)
  have hl : ((wT.nodes 0).length : Int) = 6 := by decide
  rw [hp]
  simp only [Option.bind_eq_bind, Option.bind_some, ht, w_holds, hl, w_text, nilN, if_true]
  simp [weirlaw06_num.f, seq_p]
end Go.Proofs.YtboejepakdnbgaaGreatDoor.K.C
