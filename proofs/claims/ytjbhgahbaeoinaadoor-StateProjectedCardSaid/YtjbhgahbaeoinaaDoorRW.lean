/- The chapter's examples: what the program answers at them. -/
import Derived.Test.YtjbhgahbaeoinaaDoorRP
set_option linter.unusedVariables false
set_option linter.unusedSimpArgs false
set_option maxRecDepth 100000
namespace Go.Proofs.YtjbhgahbaeoinaaDoor.K
open Go

def fa (a b : Int) : api_Final := ⟨2, vset (vset (Vector.replicate 48 0) (0 : Int) a) (1 : Int) b⟩
theorem of_s (a b : Int) : weirlaw10_of.f a b = some (fa a b) := by
  unfold weirlaw10_of.f; rw [if_pos (by decide), if_pos (by decide)]; rfl
theorem ok09 : okV (fa 0 9) = true := by kernel_rfl
theorem ok12 : okV (fa 1 2) = true := by kernel_rfl
theorem ok01 : okV (fa 0 (-1)) = true := by kernel_rfl
theorem lt_fa : cmpF (fa 0 9) (fa 1 2) = -1 := by kernel_rfl
theorem sort_ex : state_Sort.f ([fa 1 2, fa 0 9, fa 1 2] : List api_Final) = some [fa 0 9, fa 1 2] := by
  obtain ⟨s, s1, s2, s3, -⟩ := sort_s [fa 1 2, fa 0 9, fa 1 2] (by simp)
  have h2 : Strict [fa 0 9, fa 1 2] := List.pairwise_cons.2 ⟨fun b hb => by rw [List.mem_singleton.1 hb, lt_fa]; decide, List.pairwise_singleton _ _⟩
  rw [s1, strict_unique s2 h2 (fun z => by
    rw [s3]
    simp only [List.mem_cons, List.not_mem_nil, or_false]
    constructor
    · rintro ⟨h | h | h, _⟩ <;> simp [h]
    · rintro (h | h)
      · exact ⟨by simp [h], by rw [h]; exact ok09⟩
      · exact ⟨by simp [h], by rw [h]; exact ok12⟩)]
def nm2 : List api_Ref := [(⟨0, (⟨#[69, 65, 88]⟩ : ByteArray)⟩ : api_Ref), (⟨(-1), (⟨#[120]⟩ : ByteArray)⟩ : api_Ref)]
def wd0 : ByteArray := ⟨#[48, 58, 69, 65, 88, 61, 48, 59]⟩
def wd1 : ByteArray := ⟨#[120, 61, 45, 49, 59]⟩
theorem text_0 : state_Text.l0 (fa 0 (-1)) nm2 [] 0 = state_Text.l0 (fa 0 (-1)) nm2 [wd0] 1 := by
  rw [state_Text.l0]; kernel_rfl
theorem text_1 : state_Text.l0 (fa 0 (-1)) nm2 [wd0] 1 = state_Text.l0 (fa 0 (-1)) nm2 [wd0, wd1] 2 := by
  rw [state_Text.l0]; kernel_rfl
theorem text_2 : state_Text.l0 (fa 0 (-1)) nm2 [wd0, wd1] 2 = some [wd0, wd1] := by
  rw [state_Text.l0]; kernel_rfl
theorem join_ex : strings_Join.f [wd0, wd1] (⟨#[32]⟩ : ByteArray) = some (⟨#[48, 58, 69, 65, 88, 61, 48, 59, 32, 120, 61, 45, 49, 59]⟩ : ByteArray) := by kernel_rfl
theorem text_ex : state_Text.f (fa 0 (-1)) nm2 = some ((⟨#[48, 58, 69, 65, 88, 61, 48, 59, 32, 120, 61, 45, 49, 59]⟩ : ByteArray), 0) := by
  unfold state_Text.f
  rw [check_s, chk, if_pos ok01]
  simp only [Option.bind_eq_bind, Option.bind_some]
  rw [if_neg (by decide), if_neg (show ¬ ((nm2.length : Int) != (fa 0 (-1)).N) = true from by decide), text_0, text_1, text_2]
  simp only [Option.bind_some]
  rw [join_ex]; rfl
theorem put2 : word_Put.f 2 = some (⟨#[4]⟩ : ByteArray) := by unfold word_Put.f; rw [word_Put.l0]; kernel_rfl
theorem put0 : word_Put.f 0 = some (⟨#[0]⟩ : ByteArray) := by unfold word_Put.f; rw [word_Put.l0]; kernel_rfl
theorem putm : word_Put.f (-1) = some (⟨#[1]⟩ : ByteArray) := by unfold word_Put.f; rw [word_Put.l0]; kernel_rfl
theorem code_0 : state_Code.l0 (fa 0 (-1)) 0 (⟨#[4]⟩ : ByteArray) = state_Code.l0 (fa 0 (-1)) 1 (⟨#[4, 0]⟩ : ByteArray) := by
  rw [state_Code.l0, if_pos (by decide), if_pos (by decide), show gt (((fa 0 (-1)).V.toList.take (fa 0 (-1)).N.toNat).drop 0) (0 : Int) = 0 from by kernel_rfl, put0]; kernel_rfl
theorem code_1 : state_Code.l0 (fa 0 (-1)) 1 (⟨#[4, 0]⟩ : ByteArray) = state_Code.l0 (fa 0 (-1)) 2 (⟨#[4, 0, 1]⟩ : ByteArray) := by
  rw [state_Code.l0, if_pos (by decide), if_pos (by decide), show gt (((fa 0 (-1)).V.toList.take (fa 0 (-1)).N.toNat).drop 0) (1 : Int) = (-1) from by kernel_rfl, putm]; kernel_rfl
theorem code_2 : state_Code.l0 (fa 0 (-1)) 2 (⟨#[4, 0, 1]⟩ : ByteArray) = some (⟨#[4, 0, 1]⟩ : ByteArray) := by
  rw [state_Code.l0]; kernel_rfl
theorem code_ex : state_Code.f (fa 0 (-1)) = some ((⟨#[4, 0, 1]⟩ : ByteArray), 0) := by
  unfold state_Code.f
  rw [check_s, chk, if_pos ok01]
  simp only [Option.bind_eq_bind, Option.bind_some]
  rw [if_neg (by decide), show (fa 0 (-1)).N = 2 from rfl, put2]
  simp only [Option.bind_some]
  rw [show bd_write.f (⟨#[]⟩ : ByteArray) (⟨#[4]⟩ : ByteArray) = some (1, (⟨#[4]⟩ : ByteArray)) from by kernel_rfl]
  simp only [Option.bind_some]
  rw [if_pos (by decide), code_0, code_1, code_2]; rfl
def g2 : api_Final := ⟨1, vset (Vector.replicate 48 0) (0 : Int) 2⟩
def g9 : api_Final := ⟨1, vset (Vector.replicate 48 0) (0 : Int) 9⟩
theorem okg2 : okV g2 = true := by kernel_rfl
theorem okg9 : okV g9 = true := by kernel_rfl
theorem lt_g : cmpF g2 g9 = -1 := by kernel_rfl
theorem rises_ex : rises [fa 0 9, fa 1 2] = true := rises_iff.2 ⟨fun f hf => by
    rcases List.mem_cons.1 hf with rfl | hf
    · exact ok09
    · rw [List.mem_singleton.1 hf]; exact ok12, List.pairwise_cons.2 ⟨fun b hb => by rw [List.mem_singleton.1 hb, lt_fa]; decide, List.pairwise_singleton _ _⟩⟩
theorem pjs_ex : pjs [1] [fa 0 9, fa 1 2] [] = .inl [g9, g2] := by kernel_rfl
theorem project_ex : state_Project.f [fa 0 9, fa 1 2] [1] = some ([g2, g9], 0) := by
  rcases project_ok [fa 0 9, fa 1 2] [1] (by simp) rises_ex (by simp) with ⟨r, s, h1, h2, h3, h4, h5, h6⟩ | ⟨h1, h2⟩
  · rw [pjs_ex] at h1
    cases h1
    have h7 : Strict [g2, g9] := List.pairwise_cons.2 ⟨fun b hb => by rw [List.mem_singleton.1 hb, lt_g]; decide, List.pairwise_singleton _ _⟩
    rw [h3, strict_unique h4 h7 (fun z => by
      rw [h5]
      simp only [List.mem_cons, List.not_mem_nil, or_false]
      constructor
      · rintro ⟨h | h, _⟩ <;> simp [h]
      · rintro (h | h)
        · exact ⟨by simp [h], by rw [h]; exact okg2⟩
        · exact ⟨by simp [h], by rw [h]; exact okg9⟩)]
  · rw [pjs_ex] at h1; cases h1
theorem works_true : weirlaw10_works.f = some true := by
  unfold weirlaw10_works.f
  have h1 := text_ex
  unfold nm2 at h1
  simp only [of_s, Option.bind_eq_bind, Option.bind_some, sort_ex, h1, code_ex, project_ex, weirlaw10_num.f]
  rw [if_pos (by decide), if_pos (by decide), if_pos (decide_eq_true (by rfl)), if_pos (by decide), if_pos (by kernel_rfl), if_pos (by decide), if_pos (by kernel_rfl), if_pos (by decide), if_pos (by decide), if_pos (by decide), if_pos (by decide), if_pos (by kernel_rfl)]
end Go.Proofs.YtjbhgahbaeoinaaDoor.K
