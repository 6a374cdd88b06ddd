/- The walk, part 2: each Go function as a plain Lean function, and that its call answers as that function says. No condition. -/
import Derived.Test.YtmgjnplkpmcleaaDoorE
import Derived.Test.YtmgjnplkpmcleaaDoorNG
import Derived.Test.YtmgjnplkpmcleaaDoorNP
import Derived.Test.YtmgjnplkpmcleaaDoorNM
import Derived.Test.YtmgjnplkpmcleaaDoorNI
import Derived.Test.YtmgjnplkpmcleaaDoorNV
import Derived.Test.YtmgjnplkpmcleaaDoorNB
import Derived.Test.YtmgjnplkpmcleaaDoorNR
import Derived.Test.YtmgjnplkpmcleaaDoorF1
set_option linter.unusedVariables false
set_option linter.unusedSimpArgs false
set_option maxRecDepth 100000
namespace Go.Proofs.YtmgjnplkpmcleaaDoor.K
open Go Go.RowKit
noncomputable section
noncomputable def cd8 (p : List Nat) : Code := sub (bodyOf Tryd.f8) p
def print_Instr.l0 (a0 : api_Instr) (t11 : ByteArray) (t89 : ByteArray) (n92 : Nat) : Option ByteArray :=
  (if (decide (n92 < t11.size)) = true then (if ((rdc t11 n92) == 82) = true then (bd_write.f t89 a0.Reg >>= (fun (t110, t111) => (print_Instr.l0 a0 t11 t111 (n92 + rdw t11 n92)))) else (if ((rdc t11 n92) == 83) = true then (bd_write.f t89 a0.Src >>= (fun (t126, t127) => (print_Instr.l0 a0 t11 t127 (n92 + rdw t11 n92)))) else (if ((rdc t11 n92) == 76) = true then (bd_write.f t89 a0.Loc >>= (fun (t142, t143) => (print_Instr.l0 a0 t11 t143 (n92 + rdw t11 n92)))) else (if ((rdc t11 n92) == 86) = true then (word_Text.f a0.Imm >>= (fun t158 => (bd_write.f t89 t158 >>= (fun (t163, t164) => (print_Instr.l0 a0 t11 t164 (n92 + rdw t11 n92)))))) else (bd_rune.f t89 (rdc t11 n92) >>= (fun (t176, t177) => (print_Instr.l0 a0 t11 t177 (n92 + rdw t11 n92)))))))) else some (t89))
 partial_fixpoint
def print_Instr.f (a0 : api_Instr) : Option (ByteArray × Int) :=
  (print_shape.f a0.Op >>= (fun t5 => (print_cutLast.f t5 >>= (fun (t10, t11, t12) => (strings_Contains.f t11 (⟨#[82]⟩ : ByteArray) >>= (fun t17 => (strings_Contains.f t11 (⟨#[83]⟩ : ByteArray) >>= (fun t22 => (strings_Contains.f t11 (⟨#[76]⟩ : ByteArray) >>= (fun t27 => (print_shape.f a0.Op >>= (fun t32 => (((if (seq t32 (⟨#[]⟩ : ByteArray)) = true then some (.inr (((⟨#[]⟩ : ByteArray), 80))) else (if (!t17) = true then (if (!seq a0.Reg (⟨#[]⟩ : ByteArray)) = true then some (.inr (((⟨#[]⟩ : ByteArray), 80))) else (if (!t22) = true then (if (!seq a0.Src (⟨#[]⟩ : ByteArray)) = true then some (.inr (((⟨#[]⟩ : ByteArray), 80))) else (if (!t27) = true then (if (!seq a0.Loc (⟨#[]⟩ : ByteArray)) = true then some (.inr (((⟨#[]⟩ : ByteArray), 80))) else (strings_Contains.f t11 (⟨#[86]⟩ : ByteArray) >>= (fun t318 => (if (!t318) = true then (if (a0.Imm != 0) = true then some (.inr (((⟨#[]⟩ : ByteArray), 80))) else some (.inl ())) else some (.inl ()))))) else (strings_Contains.f t11 (⟨#[86]⟩ : ByteArray) >>= (fun t334 => (if (!t334) = true then (if (a0.Imm != 0) = true then some (.inr (((⟨#[]⟩ : ByteArray), 80))) else some (.inl ())) else some (.inl ())))))) else (if (!t27) = true then (if (!seq a0.Loc (⟨#[]⟩ : ByteArray)) = true then some (.inr (((⟨#[]⟩ : ByteArray), 80))) else (strings_Contains.f t11 (⟨#[86]⟩ : ByteArray) >>= (fun t359 => (if (!t359) = true then (if (a0.Imm != 0) = true then some (.inr (((⟨#[]⟩ : ByteArray), 80))) else some (.inl ())) else some (.inl ()))))) else (strings_Contains.f t11 (⟨#[86]⟩ : ByteArray) >>= (fun t375 => (if (!t375) = true then (if (a0.Imm != 0) = true then some (.inr (((⟨#[]⟩ : ByteArray), 80))) else some (.inl ())) else some (.inl ()))))))) else (if (!t22) = true then (if (!seq a0.Src (⟨#[]⟩ : ByteArray)) = true then some (.inr (((⟨#[]⟩ : ByteArray), 80))) else (if (!t27) = true then (if (!seq a0.Loc (⟨#[]⟩ : ByteArray)) = true then some (.inr (((⟨#[]⟩ : ByteArray), 80))) else (strings_Contains.f t11 (⟨#[86]⟩ : ByteArray) >>= (fun t409 => (if (!t409) = true then (if (a0.Imm != 0) = true then some (.inr (((⟨#[]⟩ : ByteArray), 80))) else some (.inl ())) else some (.inl ()))))) else (strings_Contains.f t11 (⟨#[86]⟩ : ByteArray) >>= (fun t425 => (if (!t425) = true then (if (a0.Imm != 0) = true then some (.inr (((⟨#[]⟩ : ByteArray), 80))) else some (.inl ())) else some (.inl ())))))) else (if (!t27) = true then (if (!seq a0.Loc (⟨#[]⟩ : ByteArray)) = true then some (.inr (((⟨#[]⟩ : ByteArray), 80))) else (strings_Contains.f t11 (⟨#[86]⟩ : ByteArray) >>= (fun t450 => (if (!t450) = true then (if (a0.Imm != 0) = true then some (.inr (((⟨#[]⟩ : ByteArray), 80))) else some (.inl ())) else some (.inl ()))))) else (strings_Contains.f t11 (⟨#[86]⟩ : ByteArray) >>= (fun t466 => (if (!t466) = true then (if (a0.Imm != 0) = true then some (.inr (((⟨#[]⟩ : ByteArray), 80))) else some (.inl ())) else some (.inl ())))))))) : Option (Sum Unit (ByteArray × Int))) >>= (fun | .inl () => (((if t17 = true then (lexis_Name.f a0.Reg >>= (fun t235 => (if (!t235) = true then some (.inr (((⟨#[]⟩ : ByteArray), 80))) else (if t22 = true then (lexis_Name.f a0.Src >>= (fun t261 => (if (!t261) = true then some (.inr (((⟨#[]⟩ : ByteArray), 80))) else (if t27 = true then (lexis_Name.f a0.Loc >>= (fun t274 => (if (!t274) = true then some (.inr (((⟨#[]⟩ : ByteArray), 80))) else some (.inl ())))) else some (.inl ()))))) else (if t27 = true then (lexis_Name.f a0.Loc >>= (fun t249 => (if (!t249) = true then some (.inr (((⟨#[]⟩ : ByteArray), 80))) else some (.inl ())))) else some (.inl ())))))) else (if t22 = true then (lexis_Name.f a0.Src >>= (fun t210 => (if (!t210) = true then some (.inr (((⟨#[]⟩ : ByteArray), 80))) else (if t27 = true then (lexis_Name.f a0.Loc >>= (fun t223 => (if (!t223) = true then some (.inr (((⟨#[]⟩ : ByteArray), 80))) else some (.inl ())))) else some (.inl ()))))) else (if t27 = true then (lexis_Name.f a0.Loc >>= (fun t198 => (if (!t198) = true then some (.inr (((⟨#[]⟩ : ByteArray), 80))) else some (.inl ())))) else some (.inl ())))) : Option (Sum Unit (ByteArray × Int))) >>= (fun | .inl () => (bd_write.f (⟨#[]⟩ : ByteArray) t10 >>= (fun (t60, t61) => (print_Instr.l0 a0 t11 t61 0 >>= (fun t75 => (bd_string.f t75 >>= (fun t83 => some ((t83, 0)))))))) | .inr e => some e)) | .inr e => some e))))))))))))))
set_option maxHeartbeats 16000000 in
theorem print_Instr.ok (a0 : api_Instr) {w0 : World} {Z : Zm} {fs : List XObj} {w : World} (hS0 : St w0 Z (fs) w) (hE : Env Z) {q0 : ByteArray} {q1 : Int} (hp0 : print_Instr.f a0 = some (q0, q1)) :
    Calls Tryd.prog 8 #[.agg (enc_api_Instr a0).toArray] w (fun e w' => e = .returned (.tuple #[.string q0, .int .i64 q1]) ∧ St w0 Z (fs) w') := by
  refine calls_abs ?_; intro R hR
  unfold print_Instr.f at hp0
  refine calls_of_runs (fn := Tryd.f8) (c := cd8 []) Tryd.func8 (by kernel_rfl) (al := [.agg (enc_api_Instr a0).toArray]) rfl (n := 124) rfl ?_
  refine sx_run 2 (todo' := [.inRegion (opsOf (cd8 [0])) [0, 1, 2], .code (cd8 [1])]) (us := []) (by kernel_rfl) ?_
  refine r_box (c := (cd8 [0])) (i := 0) (d := (some 1)) (ty := 0) (x := (.tmp 0)) (v := .agg (enc_api_Instr a0).toArray) (t := 27) (cs := enc_api_Instr a0) hS0 (by kernel_rfl) (by kernel_rfl) (by kernel_rfl) (by kernel_rfl) ?_
  intro b1 w2 hS3
  refine sx_run 6 (todo' := [.inRegion (opsOf (cd8 [1, 0])) [1, 2, 3, 4, 5, 6, 7, 8, 9, 10], .code (cd8 [1, 1])]) (us := [(2, .string (⟨#[]⟩ : ByteArray)), (3, .int .i64 0), (14, .pointer (some ⟨b1, 0, none⟩))]) (by kernel_rfl) ?_
  refine r_load (c := (cd8 [1, 0])) (i := 1) (d := (some 15)) (ty := 3) (t := 3) (x := (.tmp 14)) (p := ⟨b1, 0, none⟩) (v := .int .i64 a0.Op) (by kernel_rfl) (by kernel_rfl) (by kernel_rfl) (loads_at 0 (hS3.blk 0 rfl) (by kernel_rfl) (by kernel_rfl)) ?_
  obtain ⟨t5, hr6, hp7⟩ := bind_some' hp0
  refine r_call1 (c := (cd8 [1, 0])) (i := 2) (d := (some 16)) (g := 17) (args := #[.int .i64 a0.Op]) (by kernel_rfl) (by kernel_rfl) (by kernel_rfl) (by kernel_rfl) (print_shape.ok a0.Op hS3 hr6) ?_
  rintro _ w8 ⟨rfl, hS9⟩
  refine ⟨.string t5, rfl, ?_⟩
  obtain ⟨⟨t10, t11, t12⟩, hr13, hp14⟩ := bind_some' hp7
  try dsimp only at hp14
  refine r_call1 (c := (cd8 [1, 0])) (i := 3) (d := (some 17)) (g := 16) (args := #[.string t5]) (by kernel_rfl) (by kernel_rfl) (by kernel_rfl) (by kernel_rfl) (print_cutLast.ok t5 hS9 hr13) ?_
  rintro _ w15 ⟨rfl, hS16⟩
  refine ⟨.tuple #[.string t10, .string t11, .bool t12], rfl, ?_⟩
  refine sx_run 11 (todo' := [.inRegion (opsOf (cd8 [1, 1, 0])) [1, 2, 3, 4, 5, 6, 7, 8], .code (cd8 [1, 1, 1])]) (us := [(13, .tuple #[.string t10, .string t11, .bool t12]), (18, .string t10), (19, .string t11), (20, .bool t12), (4, .string t10), (5, .string t11), (6, .bool t12), (21, .string t11)]) (by kernel_rfl) ?_
  obtain ⟨t17, hr18, hp19⟩ := bind_some' hp14
  refine r_call1 (c := (cd8 [1, 1, 0])) (i := 1) (d := (some 22)) (g := 18) (args := #[.string t11, .string (⟨#[82]⟩ : ByteArray)]) (by kernel_rfl) (by kernel_rfl) (by kernel_rfl) (by kernel_rfl) (strings_Contains.ok t11 (⟨#[82]⟩ : ByteArray) hS16 hr18) ?_
  rintro _ w20 ⟨rfl, hS21⟩
  refine ⟨.bool t17, rfl, ?_⟩
  refine sx_run 1 (todo' := [.inRegion (opsOf (cd8 [1, 1, 0])) [3, 4, 5, 6, 7, 8], .code (cd8 [1, 1, 1])]) (us := [(23, .string t11)]) (by kernel_rfl) ?_
  obtain ⟨t22, hr23, hp24⟩ := bind_some' hp19
  refine r_call1 (c := (cd8 [1, 1, 0])) (i := 3) (d := (some 24)) (g := 18) (args := #[.string t11, .string (⟨#[83]⟩ : ByteArray)]) (by kernel_rfl) (by kernel_rfl) (by kernel_rfl) (by kernel_rfl) (strings_Contains.ok t11 (⟨#[83]⟩ : ByteArray) hS21 hr23) ?_
  rintro _ w25 ⟨rfl, hS26⟩
  refine ⟨.bool t22, rfl, ?_⟩
  refine sx_run 1 (todo' := [.inRegion (opsOf (cd8 [1, 1, 0])) [5, 6, 7, 8], .code (cd8 [1, 1, 1])]) (us := [(25, .string t11)]) (by kernel_rfl) ?_
  obtain ⟨t27, hr28, hp29⟩ := bind_some' hp24
  refine r_call1 (c := (cd8 [1, 1, 0])) (i := 5) (d := (some 26)) (g := 18) (args := #[.string t11, .string (⟨#[76]⟩ : ByteArray)]) (by kernel_rfl) (by kernel_rfl) (by kernel_rfl) (by kernel_rfl) (strings_Contains.ok t11 (⟨#[76]⟩ : ByteArray) hS26 hr28) ?_
  rintro _ w30 ⟨rfl, hS31⟩
  refine ⟨.bool t27, rfl, ?_⟩
  refine sx_run 8 (todo' := [.inRegion (opsOf (cd8 [1, 1, 1, 0, 0])) [1, 2, 3, 4, 5, 6, 7, 8, 9, 10, 11, 12, 13, 14, 15, 16, 17, 18, 19, 20, 21, 22, 23, 24, 25, 26, 27, 28, 29, 30, 31, 32, 33, 34, 35, 36, 37, 38, 39, 40], .code (cd8 [1, 1, 1, 0, 1]), .code (cd8 [1, 1, 1, 1])]) (us := [(7, .bool t17), (8, .bool t22), (9, .bool t27), (27, .pointer (some ⟨b1, 0, none⟩))]) (by kernel_rfl) ?_
  refine r_load (c := (cd8 [1, 1, 1, 0, 0])) (i := 1) (d := (some 28)) (ty := 3) (t := 3) (x := (.tmp 27)) (p := ⟨b1, 0, none⟩) (v := .int .i64 a0.Op) (by kernel_rfl) (by kernel_rfl) (by kernel_rfl) (loads_at 0 (hS31.blk 0 rfl) (by kernel_rfl) (by kernel_rfl)) ?_
  obtain ⟨t32, hr33, hp34⟩ := bind_some' hp29
  refine r_call1 (c := (cd8 [1, 1, 1, 0, 0])) (i := 2) (d := (some 29)) (g := 17) (args := #[.int .i64 a0.Op]) (by kernel_rfl) (by kernel_rfl) (by kernel_rfl) (by kernel_rfl) (print_shape.ok a0.Op hS31 hr33) ?_
  rintro _ w35 ⟨rfl, hS36⟩
  refine ⟨.string t32, rfl, ?_⟩
  obtain ⟨v37, hv38, hp39⟩ := bind_some' hp34
  have hq42 : ∀ x, Sum.inr x = v37 → x = (q0, q1) := by intro x hx; subst hx; simpa using hp39
  have J43 : ∀ (he45 : Sum.inl () = v37) (l44 : List Value) (w40 : World) (hS41 : St w0 Z (xblk b1 27 (enc_api_Instr a0) :: fs) w40), Runs Tryd.prog 8 [.code (cd8 [1, 1, 1, 1])] (fill [none, some (.pointer (some ⟨b1, 0, none⟩)), none, none, some (.string t10), some (.string t11), none, some (.bool t17), some (.bool t22), some (.bool t27), none, none, none, none, none, none, none, none, none, none, none, none, none, none, none, none, none, none, none, none, none, none, none, none, none, none, none, none, none, none, none, none, none, none, none, none, none, none, none, none, none, none, none, none, none, none, none, none, none, none, none, none, none, none, none, none, none, none, none, none, none, none, none, none, none, none, none, none, none, none, none, none, none, none, none, none, none, none, none, none, none, none, none, none, none, none, none, none, none, none, none, none, none, none, none, none, none, none, none, none, none, none, none, none, none, none, none, none, none, none, none, none, none, none, none] l44) w40 R := by
   intro he45 l44 w40 hS41
   subst he45
   try dsimp only at hp39
   refine sx_run 5 (todo' := [.inRegion (opsOf (cd8 [1, 1, 1, 1, 0, 0])) [2, 3, 4, 5, 6, 7, 8, 9, 10, 11, 12, 13, 14, 15, 16, 17, 18, 19, 20, 21, 22, 23, 24], .code (cd8 [1, 1, 1, 1, 0, 1]), .code (cd8 [1, 1, 1, 1, 1])]) (us := [(68, .bool t17), (69, .bool t17)]) (by kernel_rfl) ?_
   obtain ⟨v46, hv47, hp48⟩ := bind_some' hp39
   have hq51 : ∀ x, Sum.inr x = v46 → x = (q0, q1) := by intro x hx; subst hx; simpa using hp48
   have J52 : ∀ (he54 : Sum.inl () = v46) (l53 : List Value) (w49 : World) (hS50 : St w0 Z (xblk b1 27 (enc_api_Instr a0) :: fs) w49), Runs Tryd.prog 8 [.code (cd8 [1, 1, 1, 1, 1])] (fill [none, some (.pointer (some ⟨b1, 0, none⟩)), none, none, some (.string t10), some (.string t11), none, none, none, none, none, none, none, none, none, none, none, none, none, none, none, none, none, none, none, none, none, none, none, none, none, none, none, none, none, none, none, none, none, none, none, none, none, none, none, none, none, none, none, none, none, none, none, none, none, none, none, none, none, none, none, none, none, none, none, none, none, none, none, none, none, none, none, none, none, none, none, none, none, none, none, none, none, none, none, none, none, none, none, none, none, none, none, none, none, none, none, none, none, none, none, none, none, none, none, none, none, none, none, none, none, none, none, none, none, none, none, none, none, none, none, none, none, none, none] l53) w49 R := by
    intro he54 l53 w49 hS50
    subst he54
    try dsimp only at hp48
    refine sx_run 2 (todo' := [.inRegion (opsOf (cd8 [1, 1, 1, 1, 1, 0])) [0], .code (cd8 [1, 1, 1, 1, 1, 1])]) (us := []) (by kernel_rfl) ?_
    refine r_alloc (c := (cd8 [1, 1, 1, 1, 1, 0])) (i := 0) (d := (some 10)) (ty := 0) (z := .agg #[.pointer none, .slice none 0 0]) (t := 49) (cs := [.pointer none, .slice none 0 0]) hS50 (by kernel_rfl) (by kernel_rfl) (by kernel_rfl) (by kernel_rfl) ?_
    intro b55 w56 hS57
    have hS59 := hS57.newB
    refine sx_run 4 (todo' := [.inRegion (opsOf (cd8 [1, 1, 1, 1, 1, 1, 0])) [1], .code (cd8 [1, 1, 1, 1, 1, 1, 1])]) (us := [(93, .string t10)]) (by kernel_rfl) ?_
    obtain ⟨⟨t60, t61⟩, hr64, hp65⟩ := bind_some' hp48
    try dsimp only at hp65
    refine r_call1 (c := (cd8 [1, 1, 1, 1, 1, 1, 0])) (i := 1) (d := (some 94)) (g := 19) (args := #[.pointer (some ⟨b55, 0, none⟩), .string t10]) (by kernel_rfl) (by kernel_rfl) (by kernel_rfl) (by kernel_rfl) (bd_write.ok (⟨#[]⟩ : ByteArray) t10 b55 none 0 hS59 hr64) ?_
    rintro _ w66 ⟨Q62, Q63, rfl, hS67⟩
    refine ⟨.tuple #[.int .i64 t60, .nilIface], rfl, ?_⟩
    refine sx_run 5 (todo' := [.inRegion (opsOf (cd8 [1, 1, 1, 1, 1, 1, 1, 0, 0])) [1], .code (cd8 [1, 1, 1, 1, 1, 1, 1, 0, 1]), .code (cd8 [1, 1, 1, 1, 1, 1, 1, 1])]) (us := [(95, .string t11)]) (by kernel_rfl) ?_
    refine r_range (c := (cd8 [1, 1, 1, 1, 1, 1, 1, 0, 0])) (i := 1) (d := (some 96)) (ty := 0) (t := 9) (x := (.tmp 95)) (s := t11) hS67 (by kernel_rfl) (by kernel_rfl) (by kernel_rfl) (by kernel_rfl) ?_
    intro b68 w69 hS70
    refine sx_run 3 (todo' := [.code (cd8 [1, 1, 1, 1, 1, 1, 1, 0, 1, 0, 0]), .inLoop (cd8 [1, 1, 1, 1, 1, 1, 1, 0, 1, 0, 0]), .inBlock 0, .code (cd8 [1, 1, 1, 1, 1, 1, 1, 1])]) (us := []) (by kernel_rfl) ?_
    obtain ⟨v72, hv73, hp74⟩ := bind_some' hp65
    have J80 : ∀ (t75 : ByteArray) (he82 : t75 = v72) (l81 : List Value) (A76 : Option Addr) (c77 : Nat) (w78 : World) (hS79 : St w0 Z (xbld b55 A76 c77 t75 :: fs) w78), Runs Tryd.prog 8 [.code (cd8 [1, 1, 1, 1, 1, 1, 1, 1])] (fill [none, none, none, none, none, none, none, none, none, none, some (.pointer (some ⟨b55, 0, none⟩)), none, none, none, none, none, none, none, none, none, none, none, none, none, none, none, none, none, none, none, none, none, none, none, none, none, none, none, none, none, none, none, none, none, none, none, none, none, none, none, none, none, none, none, none, none, none, none, none, none, none, none, none, none, none, none, none, none, none, none, none, none, none, none, none, none, none, none, none, none, none, none, none, none, none, none, none, none, none, none, none, none, none, none, none, none, none, none, none, none, none, none, none, none, none, none, none, none, none, none, none, none, none, none, none, none, none, none, none, none, none, none, none, none, none] l81) w78 R := by
     intro t75 he82 l81 A76 c77 w78 hS79
     subst he82
     try dsimp only at hp74
     refine sx_run 2 (todo' := [.inRegion (opsOf (cd8 [1, 1, 1, 1, 1, 1, 1, 1, 0])) [0, 1, 2], .code (cd8 [1, 1, 1, 1, 1, 1, 1, 1, 1])]) (us := []) (by kernel_rfl) ?_
     obtain ⟨t83, hr84, hp85⟩ := bind_some' hp74
     refine r_call1 (c := (cd8 [1, 1, 1, 1, 1, 1, 1, 1, 0])) (i := 0) (d := (some 124)) (g := 21) (args := #[.pointer (some ⟨b55, 0, none⟩)]) (by kernel_rfl) (by kernel_rfl) (by kernel_rfl) (by kernel_rfl) (bd_string.ok t75 b55 A76 c77 hS79 hr84) ?_
     rintro _ w86 ⟨rfl, hS87⟩
     refine ⟨.string t83, rfl, ?_⟩
     refine sx_run 3 (todo' := [.code (cd8 [1, 1, 1, 1, 1, 1, 1, 1, 1])]) (us := [(2, .string t83), (3, .int .i64 0)]) (by kernel_rfl) ?_
     refine runs_ret (fn := Tryd.f8) (v := .tuple #[.string t83, .int .i64 0]) Tryd.func8 (by kernel_rfl) ?_
     have hr88 := (Option.some.inj hp85)
     cases hr88
     exact hR _ _ ⟨rfl, hS87⟩
    have L101 : ∀ (t89 : ByteArray) (n92 : Nat) (e96 : ByteArray), print_Instr.l0 a0 t11 t89 n92 = some e96 → e96 = v72 → ∀ (l95 : List Value) (A90 : Option Addr) (c91 : Nat) (w93 : World) (hS94 : St w0 Z (xblk b1 27 (enc_api_Instr a0) :: xbld b55 A90 c91 t89 :: xit b68 t11 n92 :: fs) w93), Runs Tryd.prog 8 [.code (cd8 [1, 1, 1, 1, 1, 1, 1, 0, 1, 0, 0]), .inLoop (cd8 [1, 1, 1, 1, 1, 1, 1, 0, 1, 0, 0]), .inBlock 0, .code (cd8 [1, 1, 1, 1, 1, 1, 1, 1])] (fill [none, some (.pointer (some ⟨b1, 0, none⟩)), none, none, none, none, none, none, none, none, some (.pointer (some ⟨b55, 0, none⟩)), none, none, none, none, none, none, none, none, none, none, none, none, none, none, none, none, none, none, none, none, none, none, none, none, none, none, none, none, none, none, none, none, none, none, none, none, none, none, none, none, none, none, none, none, none, none, none, none, none, none, none, none, none, none, none, none, none, none, none, none, none, none, none, none, none, none, none, none, none, none, none, none, none, none, none, none, none, none, none, none, none, none, none, none, none, some (.pointer (some ⟨b68, 0, none⟩)), none, none, none, none, none, none, none, none, none, none, none, none, none, none, none, none, none, none, none, none, none, none, none, none, none, none, none, none] l95) w93 R := by
     refine print_Instr.l0.partial_correctness a0 t11 (fun t89 n92 e96 => e96 = v72 → ∀ (l95 : List Value) (A90 : Option Addr) (c91 : Nat) (w93 : World) (hS94 : St w0 Z (xblk b1 27 (enc_api_Instr a0) :: xbld b55 A90 c91 t89 :: xit b68 t11 n92 :: fs) w93), Runs Tryd.prog 8 [.code (cd8 [1, 1, 1, 1, 1, 1, 1, 0, 1, 0, 0]), .inLoop (cd8 [1, 1, 1, 1, 1, 1, 1, 0, 1, 0, 0]), .inBlock 0, .code (cd8 [1, 1, 1, 1, 1, 1, 1, 1])] (fill [none, some (.pointer (some ⟨b1, 0, none⟩)), none, none, none, none, none, none, none, none, some (.pointer (some ⟨b55, 0, none⟩)), none, none, none, none, none, none, none, none, none, none, none, none, none, none, none, none, none, none, none, none, none, none, none, none, none, none, none, none, none, none, none, none, none, none, none, none, none, none, none, none, none, none, none, none, none, none, none, none, none, none, none, none, none, none, none, none, none, none, none, none, none, none, none, none, none, none, none, none, none, none, none, none, none, none, none, none, none, none, none, none, none, none, none, none, none, some (.pointer (some ⟨b68, 0, none⟩)), none, none, none, none, none, none, none, none, none, none, none, none, none, none, none, none, none, none, none, none, none, none, none, none, none, none, none, none] l95) w93 R) ?_
     intro rec100 ih99 t89 n92 e96 hb98 he97 l95 A90 c91 w93 hS94
     refine sx_run 2 (todo' := [.inRegion (opsOf (cd8 [1, 1, 1, 1, 1, 1, 1, 0, 1, 0, 0, 0])) [0, 1], .code (cd8 [1, 1, 1, 1, 1, 1, 1, 0, 1, 0, 0, 1]), .inLoop (cd8 [1, 1, 1, 1, 1, 1, 1, 0, 1, 0, 0]), .inBlock 0, .code (cd8 [1, 1, 1, 1, 1, 1, 1, 1])]) (us := []) (by kernel_rfl) ?_
     rcases Bool.eq_false_or_eq_true (decide (n92 < t11.size)) with h102 | h102
     ·skip
      have hp103 := ite_t hb98 h102
      have hS104 := hS94.pick2
      refine r_next1 (c := (cd8 [1, 1, 1, 1, 1, 1, 1, 0, 1, 0, 0, 0])) (i := 0) (d := (some 97)) (ty := 0) (x := (.tmp 96)) (s := t11) (b := b68) (pos := n92) hS104 (by kernel_rfl) (by kernel_rfl) (by kernel_rfl) h102 ?_
      intro w105 hS106
      refine sx_split 19 (todo' := [.inRegion (opsOf (cd8 [1, 1, 1, 1, 1, 1, 1, 0, 1, 0, 0, 1, 1, 0, 1, 1, 0, 0])) [1], .code (cd8 [1, 1, 1, 1, 1, 1, 1, 0, 1, 0, 0, 1, 1, 0, 1, 1, 0, 1]), .inBlock 2, .inBlock 1, .inLoop (cd8 [1, 1, 1, 1, 1, 1, 1, 0, 1, 0, 0]), .inBlock 0, .code (cd8 [1, 1, 1, 1, 1, 1, 1, 1])]) (us := [(98, .bool true), (99, .int .i32 (rdc t11 n92)), (12, .int .i32 (rdc t11 n92)), (100, .int .i32 (rdc t11 n92))]) (d := 104) (t := ((rdc t11 n92) == 82)) (by kernel_rfl) (fun h107 => ?_) (fun h108 => ?_)
      ·skip
       have hp109 := ite_t hp103 h107
       refine sx_run 5 (todo' := [.inRegion (opsOf (cd8 [1, 1, 1, 1, 1, 1, 1, 0, 1, 0, 0, 1, 1, 0, 1, 1, 0, 1, 0])) [1, 2], .inBlock 2, .inBlock 1, .inLoop (cd8 [1, 1, 1, 1, 1, 1, 1, 0, 1, 0, 0]), .inBlock 0, .code (cd8 [1, 1, 1, 1, 1, 1, 1, 1])]) (us := [(103, .bool true), (105, .pointer (some ⟨b1, 1, none⟩))]) (by kernel_rfl) ?_
       refine r_load (c := (cd8 [1, 1, 1, 1, 1, 1, 1, 0, 1, 0, 0, 1, 1, 0, 1, 1, 0, 1, 0])) (i := 1) (d := (some 106)) (ty := 9) (t := 9) (x := (.tmp 105)) (p := ⟨b1, 1, none⟩) (v := .string a0.Reg) (by kernel_rfl) (by kernel_rfl) (by kernel_rfl) (loads_at 1 (hS106.blk 1 rfl) (by kernel_rfl) (by kernel_rfl)) ?_
       obtain ⟨⟨t110, t111⟩, hr114, hp115⟩ := bind_some' hp109
       try dsimp only at hp115
       have hS116 := hS106.pick2
       refine r_call1 (c := (cd8 [1, 1, 1, 1, 1, 1, 1, 0, 1, 0, 0, 1, 1, 0, 1, 1, 0, 1, 0])) (i := 2) (d := (some 107)) (g := 19) (args := #[.pointer (some ⟨b55, 0, none⟩), .string a0.Reg]) (by kernel_rfl) (by kernel_rfl) (by kernel_rfl) (by kernel_rfl) (bd_write.ok t89 a0.Reg b55 A90 c91 hS116 hr114) ?_
       rintro _ w117 ⟨Q112, Q113, rfl, hS118⟩
       refine ⟨.tuple #[.int .i64 t110, .nilIface], rfl, ?_⟩
       refine sx_run 3 (todo' := [.inLoop (cd8 [1, 1, 1, 1, 1, 1, 1, 0, 1, 0, 0]), .inBlock 0, .code (cd8 [1, 1, 1, 1, 1, 1, 1, 1])]) (us := []) (by kernel_rfl) ?_
       have hS119 := hS118.pick1
       have hS120 := hS119.pick1
       have hS121 := hS120.pick2
       refine sx_run 1 (todo' := [.code (cd8 [1, 1, 1, 1, 1, 1, 1, 0, 1, 0, 0]), .inLoop (cd8 [1, 1, 1, 1, 1, 1, 1, 0, 1, 0, 0]), .inBlock 0, .code (cd8 [1, 1, 1, 1, 1, 1, 1, 1])]) (us := []) (by kernel_rfl) ?_
       refine Runs.fill (m := [none, some (.pointer (some ⟨b1, 0, none⟩)), none, none, none, none, none, none, none, none, some (.pointer (some ⟨b55, 0, none⟩)), none, none, none, none, none, none, none, none, none, none, none, none, none, none, none, none, none, none, none, none, none, none, none, none, none, none, none, none, none, none, none, none, none, none, none, none, none, none, none, none, none, none, none, none, none, none, none, none, none, none, none, none, none, none, none, none, none, none, none, none, none, none, none, none, none, none, none, none, none, none, none, none, none, none, none, none, none, none, none, none, none, none, none, none, none, some (.pointer (some ⟨b68, 0, none⟩)), none, none, none, none, none, none, none, none, none, none, none, none, none, none, none, none, none, none, none, none, none, none, none, none, none, none, none, none]) (by kernel_rfl) ?_
       exact ih99 t111 (n92 + rdw t11 n92) _ hp115 he97 _ Q112 Q113 _ hS121
      ·skip
       have hp122 := ite_f hp103 h108
       refine sx_split 6 (todo' := [.inRegion (opsOf (cd8 [1, 1, 1, 1, 1, 1, 1, 0, 1, 0, 0, 1, 1, 0, 1, 1, 0, 1, 1, 0])) [1], .code (cd8 [1, 1, 1, 1, 1, 1, 1, 0, 1, 0, 0, 1, 1, 0, 1, 1, 0, 1, 1, 1]), .inBlock 2, .inBlock 1, .inLoop (cd8 [1, 1, 1, 1, 1, 1, 1, 0, 1, 0, 0]), .inBlock 0, .code (cd8 [1, 1, 1, 1, 1, 1, 1, 1])]) (us := [(103, .bool false)]) (d := 109) (t := ((rdc t11 n92) == 83)) (by kernel_rfl) (fun h123 => ?_) (fun h124 => ?_)
       ·skip
        have hp125 := ite_t hp122 h123
        refine sx_run 5 (todo' := [.inRegion (opsOf (cd8 [1, 1, 1, 1, 1, 1, 1, 0, 1, 0, 0, 1, 1, 0, 1, 1, 0, 1, 1, 1, 0])) [1, 2], .inBlock 2, .inBlock 1, .inLoop (cd8 [1, 1, 1, 1, 1, 1, 1, 0, 1, 0, 0]), .inBlock 0, .code (cd8 [1, 1, 1, 1, 1, 1, 1, 1])]) (us := [(108, .bool true), (110, .pointer (some ⟨b1, 2, none⟩))]) (by kernel_rfl) ?_
        refine r_load (c := (cd8 [1, 1, 1, 1, 1, 1, 1, 0, 1, 0, 0, 1, 1, 0, 1, 1, 0, 1, 1, 1, 0])) (i := 1) (d := (some 111)) (ty := 9) (t := 9) (x := (.tmp 110)) (p := ⟨b1, 2, none⟩) (v := .string a0.Src) (by kernel_rfl) (by kernel_rfl) (by kernel_rfl) (loads_at 2 (hS106.blk 1 rfl) (by kernel_rfl) (by kernel_rfl)) ?_
        obtain ⟨⟨t126, t127⟩, hr130, hp131⟩ := bind_some' hp125
        try dsimp only at hp131
        have hS132 := hS106.pick2
        refine r_call1 (c := (cd8 [1, 1, 1, 1, 1, 1, 1, 0, 1, 0, 0, 1, 1, 0, 1, 1, 0, 1, 1, 1, 0])) (i := 2) (d := (some 112)) (g := 19) (args := #[.pointer (some ⟨b55, 0, none⟩), .string a0.Src]) (by kernel_rfl) (by kernel_rfl) (by kernel_rfl) (by kernel_rfl) (bd_write.ok t89 a0.Src b55 A90 c91 hS132 hr130) ?_
        rintro _ w133 ⟨Q128, Q129, rfl, hS134⟩
        refine ⟨.tuple #[.int .i64 t126, .nilIface], rfl, ?_⟩
        refine sx_run 3 (todo' := [.inLoop (cd8 [1, 1, 1, 1, 1, 1, 1, 0, 1, 0, 0]), .inBlock 0, .code (cd8 [1, 1, 1, 1, 1, 1, 1, 1])]) (us := []) (by kernel_rfl) ?_
        have hS135 := hS134.pick1
        have hS136 := hS135.pick1
        have hS137 := hS136.pick2
        refine sx_run 1 (todo' := [.code (cd8 [1, 1, 1, 1, 1, 1, 1, 0, 1, 0, 0]), .inLoop (cd8 [1, 1, 1, 1, 1, 1, 1, 0, 1, 0, 0]), .inBlock 0, .code (cd8 [1, 1, 1, 1, 1, 1, 1, 1])]) (us := []) (by kernel_rfl) ?_
        refine Runs.fill (m := [none, some (.pointer (some ⟨b1, 0, none⟩)), none, none, none, none, none, none, none, none, some (.pointer (some ⟨b55, 0, none⟩)), none, none, none, none, none, none, none, none, none, none, none, none, none, none, none, none, none, none, none, none, none, none, none, none, none, none, none, none, none, none, none, none, none, none, none, none, none, none, none, none, none, none, none, none, none, none, none, none, none, none, none, none, none, none, none, none, none, none, none, none, none, none, none, none, none, none, none, none, none, none, none, none, none, none, none, none, none, none, none, none, none, none, none, none, none, some (.pointer (some ⟨b68, 0, none⟩)), none, none, none, none, none, none, none, none, none, none, none, none, none, none, none, none, none, none, none, none, none, none, none, none, none, none, none, none]) (by kernel_rfl) ?_
        exact ih99 t127 (n92 + rdw t11 n92) _ hp131 he97 _ Q128 Q129 _ hS137
       ·skip
        have hp138 := ite_f hp122 h124
        refine sx_split 6 (todo' := [.inRegion (opsOf (cd8 [1, 1, 1, 1, 1, 1, 1, 0, 1, 0, 0, 1, 1, 0, 1, 1, 0, 1, 1, 1, 1, 0])) [1], .code (cd8 [1, 1, 1, 1, 1, 1, 1, 0, 1, 0, 0, 1, 1, 0, 1, 1, 0, 1, 1, 1, 1, 1]), .inBlock 2, .inBlock 1, .inLoop (cd8 [1, 1, 1, 1, 1, 1, 1, 0, 1, 0, 0]), .inBlock 0, .code (cd8 [1, 1, 1, 1, 1, 1, 1, 1])]) (us := [(108, .bool false)]) (d := 114) (t := ((rdc t11 n92) == 76)) (by kernel_rfl) (fun h139 => ?_) (fun h140 => ?_)
        ·skip
         have hp141 := ite_t hp138 h139
         refine sx_run 5 (todo' := [.inRegion (opsOf (cd8 [1, 1, 1, 1, 1, 1, 1, 0, 1, 0, 0, 1, 1, 0, 1, 1, 0, 1, 1, 1, 1, 1, 0])) [1, 2], .inBlock 2, .inBlock 1, .inLoop (cd8 [1, 1, 1, 1, 1, 1, 1, 0, 1, 0, 0]), .inBlock 0, .code (cd8 [1, 1, 1, 1, 1, 1, 1, 1])]) (us := [(113, .bool true), (115, .pointer (some ⟨b1, 3, none⟩))]) (by kernel_rfl) ?_
         refine r_load (c := (cd8 [1, 1, 1, 1, 1, 1, 1, 0, 1, 0, 0, 1, 1, 0, 1, 1, 0, 1, 1, 1, 1, 1, 0])) (i := 1) (d := (some 116)) (ty := 9) (t := 9) (x := (.tmp 115)) (p := ⟨b1, 3, none⟩) (v := .string a0.Loc) (by kernel_rfl) (by kernel_rfl) (by kernel_rfl) (loads_at 3 (hS106.blk 1 rfl) (by kernel_rfl) (by kernel_rfl)) ?_
         obtain ⟨⟨t142, t143⟩, hr146, hp147⟩ := bind_some' hp141
         try dsimp only at hp147
         have hS148 := hS106.pick2
         refine r_call1 (c := (cd8 [1, 1, 1, 1, 1, 1, 1, 0, 1, 0, 0, 1, 1, 0, 1, 1, 0, 1, 1, 1, 1, 1, 0])) (i := 2) (d := (some 117)) (g := 19) (args := #[.pointer (some ⟨b55, 0, none⟩), .string a0.Loc]) (by kernel_rfl) (by kernel_rfl) (by kernel_rfl) (by kernel_rfl) (bd_write.ok t89 a0.Loc b55 A90 c91 hS148 hr146) ?_
         rintro _ w149 ⟨Q144, Q145, rfl, hS150⟩
         refine ⟨.tuple #[.int .i64 t142, .nilIface], rfl, ?_⟩
         refine sx_run 3 (todo' := [.inLoop (cd8 [1, 1, 1, 1, 1, 1, 1, 0, 1, 0, 0]), .inBlock 0, .code (cd8 [1, 1, 1, 1, 1, 1, 1, 1])]) (us := []) (by kernel_rfl) ?_
         have hS151 := hS150.pick1
         have hS152 := hS151.pick1
         have hS153 := hS152.pick2
         refine sx_run 1 (todo' := [.code (cd8 [1, 1, 1, 1, 1, 1, 1, 0, 1, 0, 0]), .inLoop (cd8 [1, 1, 1, 1, 1, 1, 1, 0, 1, 0, 0]), .inBlock 0, .code (cd8 [1, 1, 1, 1, 1, 1, 1, 1])]) (us := []) (by kernel_rfl) ?_
         refine Runs.fill (m := [none, some (.pointer (some ⟨b1, 0, none⟩)), none, none, none, none, none, none, none, none, some (.pointer (some ⟨b55, 0, none⟩)), none, none, none, none, none, none, none, none, none, none, none, none, none, none, none, none, none, none, none, none, none, none, none, none, none, none, none, none, none, none, none, none, none, none, none, none, none, none, none, none, none, none, none, none, none, none, none, none, none, none, none, none, none, none, none, none, none, none, none, none, none, none, none, none, none, none, none, none, none, none, none, none, none, none, none, none, none, none, none, none, none, none, none, none, none, some (.pointer (some ⟨b68, 0, none⟩)), none, none, none, none, none, none, none, none, none, none, none, none, none, none, none, none, none, none, none, none, none, none, none, none, none, none, none, none]) (by kernel_rfl) ?_
         exact ih99 t143 (n92 + rdw t11 n92) _ hp147 he97 _ Q144 Q145 _ hS153
        ·skip
         have hp154 := ite_f hp138 h140
         refine sx_split 6 (todo' := [.inRegion (opsOf (cd8 [1, 1, 1, 1, 1, 1, 1, 0, 1, 0, 0, 1, 1, 0, 1, 1, 0, 1, 1, 1, 1, 1, 1, 0])) [1], .code (cd8 [1, 1, 1, 1, 1, 1, 1, 0, 1, 0, 0, 1, 1, 0, 1, 1, 0, 1, 1, 1, 1, 1, 1, 1]), .inBlock 2, .inBlock 1, .inLoop (cd8 [1, 1, 1, 1, 1, 1, 1, 0, 1, 0, 0]), .inBlock 0, .code (cd8 [1, 1, 1, 1, 1, 1, 1, 1])]) (us := [(113, .bool false)]) (d := 119) (t := ((rdc t11 n92) == 86)) (by kernel_rfl) (fun h155 => ?_) (fun h156 => ?_)
         ·skip
          have hp157 := ite_t hp154 h155
          refine sx_run 5 (todo' := [.inRegion (opsOf (cd8 [1, 1, 1, 1, 1, 1, 1, 0, 1, 0, 0, 1, 1, 0, 1, 1, 0, 1, 1, 1, 1, 1, 1, 1, 0])) [1, 2, 3], .inBlock 2, .inBlock 1, .inLoop (cd8 [1, 1, 1, 1, 1, 1, 1, 0, 1, 0, 0]), .inBlock 0, .code (cd8 [1, 1, 1, 1, 1, 1, 1, 1])]) (us := [(118, .bool true), (120, .pointer (some ⟨b1, 4, none⟩))]) (by kernel_rfl) ?_
          refine r_load (c := (cd8 [1, 1, 1, 1, 1, 1, 1, 0, 1, 0, 0, 1, 1, 0, 1, 1, 0, 1, 1, 1, 1, 1, 1, 1, 0])) (i := 1) (d := (some 121)) (ty := 2) (t := 2) (x := (.tmp 120)) (p := ⟨b1, 4, none⟩) (v := .int .i64 a0.Imm) (by kernel_rfl) (by kernel_rfl) (by kernel_rfl) (loads_at 4 (hS106.blk 1 rfl) (by kernel_rfl) (by kernel_rfl)) ?_
          obtain ⟨t158, hr159, hp160⟩ := bind_some' hp157
          refine r_call1 (c := (cd8 [1, 1, 1, 1, 1, 1, 1, 0, 1, 0, 0, 1, 1, 0, 1, 1, 0, 1, 1, 1, 1, 1, 1, 1, 0])) (i := 2) (d := (some 122)) (g := 15) (args := #[.int .i64 a0.Imm]) (by kernel_rfl) (by kernel_rfl) (by kernel_rfl) (by kernel_rfl) (word_Text.ok a0.Imm hS106 hE hr159) ?_
          rintro _ w161 ⟨rfl, hS162⟩
          refine ⟨.string t158, rfl, ?_⟩
          obtain ⟨⟨t163, t164⟩, hr167, hp168⟩ := bind_some' hp160
          try dsimp only at hp168
          have hS169 := hS162.pick2
          refine r_call1 (c := (cd8 [1, 1, 1, 1, 1, 1, 1, 0, 1, 0, 0, 1, 1, 0, 1, 1, 0, 1, 1, 1, 1, 1, 1, 1, 0])) (i := 3) (d := (some 123)) (g := 19) (args := #[.pointer (some ⟨b55, 0, none⟩), .string t158]) (by kernel_rfl) (by kernel_rfl) (by kernel_rfl) (by kernel_rfl) (bd_write.ok t89 t158 b55 A90 c91 hS169 hr167) ?_
          rintro _ w170 ⟨Q165, Q166, rfl, hS171⟩
          refine ⟨.tuple #[.int .i64 t163, .nilIface], rfl, ?_⟩
          refine sx_run 3 (todo' := [.inLoop (cd8 [1, 1, 1, 1, 1, 1, 1, 0, 1, 0, 0]), .inBlock 0, .code (cd8 [1, 1, 1, 1, 1, 1, 1, 1])]) (us := []) (by kernel_rfl) ?_
          have hS172 := hS171.pick1
          have hS173 := hS172.pick1
          have hS174 := hS173.pick2
          refine sx_run 1 (todo' := [.code (cd8 [1, 1, 1, 1, 1, 1, 1, 0, 1, 0, 0]), .inLoop (cd8 [1, 1, 1, 1, 1, 1, 1, 0, 1, 0, 0]), .inBlock 0, .code (cd8 [1, 1, 1, 1, 1, 1, 1, 1])]) (us := []) (by kernel_rfl) ?_
          refine Runs.fill (m := [none, some (.pointer (some ⟨b1, 0, none⟩)), none, none, none, none, none, none, none, none, some (.pointer (some ⟨b55, 0, none⟩)), none, none, none, none, none, none, none, none, none, none, none, none, none, none, none, none, none, none, none, none, none, none, none, none, none, none, none, none, none, none, none, none, none, none, none, none, none, none, none, none, none, none, none, none, none, none, none, none, none, none, none, none, none, none, none, none, none, none, none, none, none, none, none, none, none, none, none, none, none, none, none, none, none, none, none, none, none, none, none, none, none, none, none, none, none, some (.pointer (some ⟨b68, 0, none⟩)), none, none, none, none, none, none, none, none, none, none, none, none, none, none, none, none, none, none, none, none, none, none, none, none, none, none, none, none]) (by kernel_rfl) ?_
          exact ih99 t164 (n92 + rdw t11 n92) _ hp168 he97 _ Q165 Q166 _ hS174
         ·skip
          have hp175 := ite_f hp154 h156
          refine sx_run 5 (todo' := [.inRegion (opsOf (cd8 [1, 1, 1, 1, 1, 1, 1, 0, 1, 0, 0, 1, 1, 0, 1, 1, 0, 1, 1, 1, 1, 1, 1, 1, 1])) [1], .inBlock 2, .inBlock 1, .inLoop (cd8 [1, 1, 1, 1, 1, 1, 1, 0, 1, 0, 0]), .inBlock 0, .code (cd8 [1, 1, 1, 1, 1, 1, 1, 1])]) (us := [(118, .bool false), (101, .int .i32 (rdc t11 n92))]) (by kernel_rfl) ?_
          obtain ⟨⟨t176, t177⟩, hr180, hp181⟩ := bind_some' hp175
          try dsimp only at hp181
          have hS182 := hS106.pick2
          refine r_call1 (c := (cd8 [1, 1, 1, 1, 1, 1, 1, 0, 1, 0, 0, 1, 1, 0, 1, 1, 0, 1, 1, 1, 1, 1, 1, 1, 1])) (i := 1) (d := (some 102)) (g := 20) (args := #[.pointer (some ⟨b55, 0, none⟩), .int .i32 (rdc t11 n92)]) (by kernel_rfl) (by kernel_rfl) (by kernel_rfl) (by kernel_rfl) (bd_rune.ok t89 (rdc t11 n92) b55 A90 c91 hS182 hr180) ?_
          rintro _ w183 ⟨Q178, Q179, rfl, hS184⟩
          refine ⟨.tuple #[.int .i64 t176, .nilIface], rfl, ?_⟩
          refine sx_run 3 (todo' := [.inLoop (cd8 [1, 1, 1, 1, 1, 1, 1, 0, 1, 0, 0]), .inBlock 0, .code (cd8 [1, 1, 1, 1, 1, 1, 1, 1])]) (us := []) (by kernel_rfl) ?_
          have hS185 := hS184.pick1
          have hS186 := hS185.pick1
          have hS187 := hS186.pick2
          refine sx_run 1 (todo' := [.code (cd8 [1, 1, 1, 1, 1, 1, 1, 0, 1, 0, 0]), .inLoop (cd8 [1, 1, 1, 1, 1, 1, 1, 0, 1, 0, 0]), .inBlock 0, .code (cd8 [1, 1, 1, 1, 1, 1, 1, 1])]) (us := []) (by kernel_rfl) ?_
          refine Runs.fill (m := [none, some (.pointer (some ⟨b1, 0, none⟩)), none, none, none, none, none, none, none, none, some (.pointer (some ⟨b55, 0, none⟩)), none, none, none, none, none, none, none, none, none, none, none, none, none, none, none, none, none, none, none, none, none, none, none, none, none, none, none, none, none, none, none, none, none, none, none, none, none, none, none, none, none, none, none, none, none, none, none, none, none, none, none, none, none, none, none, none, none, none, none, none, none, none, none, none, none, none, none, none, none, none, none, none, none, none, none, none, none, none, none, none, none, none, none, none, none, some (.pointer (some ⟨b68, 0, none⟩)), none, none, none, none, none, none, none, none, none, none, none, none, none, none, none, none, none, none, none, none, none, none, none, none, none, none, none, none]) (by kernel_rfl) ?_
          exact ih99 t177 (n92 + rdw t11 n92) _ hp181 he97 _ Q178 Q179 _ hS187
     ·skip
      have hp188 := ite_f hb98 h102
      refine r_next0 (c := (cd8 [1, 1, 1, 1, 1, 1, 1, 0, 1, 0, 0, 0])) (i := 0) (d := (some 97)) (ty := 0) (x := (.tmp 96)) (s := t11) (b := b68) (pos := n92) 2 hS94 rfl (by kernel_rfl) (by kernel_rfl) (by kernel_rfl) h102 ?_
      refine sx_run 5 (todo' := [.code (cd8 [1, 1, 1, 1, 1, 1, 1, 1])]) (us := [(98, .bool false)]) (by kernel_rfl) ?_
      have hS189 := hS94.drop
      have hS190 := hS189.pick1
      have hS191 := hS190.drop
      refine Runs.fill (m := [none, none, none, none, none, none, none, none, none, none, some (.pointer (some ⟨b55, 0, none⟩)), none, none, none, none, none, none, none, none, none, none, none, none, none, none, none, none, none, none, none, none, none, none, none, none, none, none, none, none, none, none, none, none, none, none, none, none, none, none, none, none, none, none, none, none, none, none, none, none, none, none, none, none, none, none, none, none, none, none, none, none, none, none, none, none, none, none, none, none, none, none, none, none, none, none, none, none, none, none, none, none, none, none, none, none, none, none, none, none, none, none, none, none, none, none, none, none, none, none, none, none, none, none, none, none, none, none, none, none, none, none, none, none, none, none]) (by kernel_rfl) ?_
      exact J80 t89 ((Option.some.inj hp188).trans he97) _ A90 c91 _ hS191
    have hS192 := hS70.pick1
    have hS193 := hS192.pick2
    refine Runs.fill (m := [none, some (.pointer (some ⟨b1, 0, none⟩)), none, none, none, none, none, none, none, none, some (.pointer (some ⟨b55, 0, none⟩)), none, none, none, none, none, none, none, none, none, none, none, none, none, none, none, none, none, none, none, none, none, none, none, none, none, none, none, none, none, none, none, none, none, none, none, none, none, none, none, none, none, none, none, none, none, none, none, none, none, none, none, none, none, none, none, none, none, none, none, none, none, none, none, none, none, none, none, none, none, none, none, none, none, none, none, none, none, none, none, none, none, none, none, none, none, some (.pointer (some ⟨b68, 0, none⟩)), none, none, none, none, none, none, none, none, none, none, none, none, none, none, none, none, none, none, none, none, none, none, none, none, none, none, none, none]) (by kernel_rfl) ?_
    exact L101 t61 0 _ hv73 rfl _ Q62 Q63 _ hS193
   cases t17
   ·skip
    have hp194 := ite_f hv47 rfl
    refine sx_run 8 (todo' := [.inRegion (opsOf (cd8 [1, 1, 1, 1, 0, 0])) [10, 11, 12, 13, 14, 15, 16, 17, 18, 19, 20, 21, 22, 23, 24], .code (cd8 [1, 1, 1, 1, 0, 1]), .code (cd8 [1, 1, 1, 1, 1])]) (us := [(70, undef), (71, undef), (72, undef), (73, undef), (74, .bool false), (75, .bool false), (76, .bool t22), (77, .bool t22)]) (by kernel_rfl) ?_
    cases t22
    ·skip
     have hp195 := ite_f hp194 rfl
     refine sx_run 9 (todo' := [.inRegion (opsOf (cd8 [1, 1, 1, 1, 0, 0])) [19, 20, 21, 22, 23, 24], .code (cd8 [1, 1, 1, 1, 0, 1]), .code (cd8 [1, 1, 1, 1, 1])]) (us := [(78, undef), (79, undef), (80, undef), (81, undef), (82, .bool false), (83, .bool false), (84, .bool false), (85, .bool t27), (86, .bool t27)]) (by kernel_rfl) ?_
     cases t27
     ·skip
      have hp196 := ite_f hp195 rfl
      refine sx_run 9 (todo' := [.code (cd8 [1, 1, 1, 1, 1])]) (us := [(87, undef), (88, undef), (89, undef), (90, undef), (91, .bool false), (92, .bool false)]) (by kernel_rfl) ?_
      refine Runs.fill (m := [none, some (.pointer (some ⟨b1, 0, none⟩)), none, none, some (.string t10), some (.string t11), none, none, none, none, none, none, none, none, none, none, none, none, none, none, none, none, none, none, none, none, none, none, none, none, none, none, none, none, none, none, none, none, none, none, none, none, none, none, none, none, none, none, none, none, none, none, none, none, none, none, none, none, none, none, none, none, none, none, none, none, none, none, none, none, none, none, none, none, none, none, none, none, none, none, none, none, none, none, none, none, none, none, none, none, none, none, none, none, none, none, none, none, none, none, none, none, none, none, none, none, none, none, none, none, none, none, none, none, none, none, none, none, none, none, none, none, none, none, none]) (by kernel_rfl) ?_
      exact J52 (Option.some.inj hp196) _ _ hS41
     ·skip
      have hp197 := ite_t hp195 rfl
      refine sx_run 1 (todo' := [.inRegion (opsOf (cd8 [1, 1, 1, 1, 0, 0])) [20, 21, 22, 23, 24], .code (cd8 [1, 1, 1, 1, 0, 1]), .code (cd8 [1, 1, 1, 1, 1])]) (us := [(87, .pointer (some ⟨b1, 3, none⟩))]) (by kernel_rfl) ?_
      refine r_load (c := (cd8 [1, 1, 1, 1, 0, 0])) (i := 20) (d := (some 88)) (ty := 9) (t := 9) (x := (.tmp 87)) (p := ⟨b1, 3, none⟩) (v := .string a0.Loc) (by kernel_rfl) (by kernel_rfl) (by kernel_rfl) (loads_at 3 (hS41.blk 0 rfl) (by kernel_rfl) (by kernel_rfl)) ?_
      obtain ⟨t198, hr199, hp200⟩ := bind_some' hp197
      refine r_call1 (c := (cd8 [1, 1, 1, 1, 0, 0])) (i := 21) (d := (some 89)) (g := 11) (args := #[.string a0.Loc]) (by kernel_rfl) (by kernel_rfl) (by kernel_rfl) (by kernel_rfl) (lexis_Name.ok a0.Loc hS41 hr199) ?_
      rintro _ w201 ⟨rfl, hS202⟩
      refine ⟨.bool t198, rfl, ?_⟩
      refine sx_split 1 (todo' := [.inRegion (opsOf (cd8 [1, 1, 1, 1, 0, 0])) [23, 24], .code (cd8 [1, 1, 1, 1, 0, 1]), .code (cd8 [1, 1, 1, 1, 1])]) (us := []) (d := 90) (t := (!t198)) (by kernel_rfl) (fun h203 => ?_) (fun h204 => ?_)
      ·skip
       have hp205 := ite_t hp200 h203
       refine sx_run 9 (todo' := [.code (cd8 [1, 1, 1, 1, 0, 1, 0, 1]), .code (cd8 [1, 1, 1, 1, 1])]) (us := [(91, .bool true), (92, .bool true), (2, .string (⟨#[]⟩ : ByteArray)), (3, .int .i64 80)]) (by kernel_rfl) ?_
       have hS206 := hS202.drop
       refine runs_ret (fn := Tryd.f8) (v := .tuple #[.string (⟨#[]⟩ : ByteArray), .int .i64 80]) Tryd.func8 (by kernel_rfl) ?_
       have hr207 := (hq51 _ (Option.some.inj hp205))
       cases hr207
       exact hR _ _ ⟨rfl, hS206⟩
      ·skip
       have hp208 := ite_f hp200 h204
       refine sx_run 5 (todo' := [.code (cd8 [1, 1, 1, 1, 1])]) (us := [(91, .bool false), (92, .bool false)]) (by kernel_rfl) ?_
       refine Runs.fill (m := [none, some (.pointer (some ⟨b1, 0, none⟩)), none, none, some (.string t10), some (.string t11), none, none, none, none, none, none, none, none, none, none, none, none, none, none, none, none, none, none, none, none, none, none, none, none, none, none, none, none, none, none, none, none, none, none, none, none, none, none, none, none, none, none, none, none, none, none, none, none, none, none, none, none, none, none, none, none, none, none, none, none, none, none, none, none, none, none, none, none, none, none, none, none, none, none, none, none, none, none, none, none, none, none, none, none, none, none, none, none, none, none, none, none, none, none, none, none, none, none, none, none, none, none, none, none, none, none, none, none, none, none, none, none, none, none, none, none, none, none, none]) (by kernel_rfl) ?_
       exact J52 (Option.some.inj hp208) _ _ hS202
    ·skip
     have hp209 := ite_t hp194 rfl
     refine sx_run 1 (todo' := [.inRegion (opsOf (cd8 [1, 1, 1, 1, 0, 0])) [11, 12, 13, 14, 15, 16, 17, 18, 19, 20, 21, 22, 23, 24], .code (cd8 [1, 1, 1, 1, 0, 1]), .code (cd8 [1, 1, 1, 1, 1])]) (us := [(78, .pointer (some ⟨b1, 2, none⟩))]) (by kernel_rfl) ?_
     refine r_load (c := (cd8 [1, 1, 1, 1, 0, 0])) (i := 11) (d := (some 79)) (ty := 9) (t := 9) (x := (.tmp 78)) (p := ⟨b1, 2, none⟩) (v := .string a0.Src) (by kernel_rfl) (by kernel_rfl) (by kernel_rfl) (loads_at 2 (hS41.blk 0 rfl) (by kernel_rfl) (by kernel_rfl)) ?_
     obtain ⟨t210, hr211, hp212⟩ := bind_some' hp209
     refine r_call1 (c := (cd8 [1, 1, 1, 1, 0, 0])) (i := 12) (d := (some 80)) (g := 11) (args := #[.string a0.Src]) (by kernel_rfl) (by kernel_rfl) (by kernel_rfl) (by kernel_rfl) (lexis_Name.ok a0.Src hS41 hr211) ?_
     rintro _ w213 ⟨rfl, hS214⟩
     refine ⟨.bool t210, rfl, ?_⟩
     refine sx_split 1 (todo' := [.inRegion (opsOf (cd8 [1, 1, 1, 1, 0, 0])) [14, 15, 16, 17, 18, 19, 20, 21, 22, 23, 24], .code (cd8 [1, 1, 1, 1, 0, 1]), .code (cd8 [1, 1, 1, 1, 1])]) (us := []) (d := 81) (t := (!t210)) (by kernel_rfl) (fun h215 => ?_) (fun h216 => ?_)
     ·skip
      have hp217 := ite_t hp212 h215
      refine sx_run 18 (todo' := [.code (cd8 [1, 1, 1, 1, 0, 1, 0, 1]), .code (cd8 [1, 1, 1, 1, 1])]) (us := [(82, .bool true), (83, .bool true), (84, .bool true), (85, undef), (86, undef), (87, undef), (88, undef), (89, undef), (90, undef), (91, undef), (92, .bool true), (2, .string (⟨#[]⟩ : ByteArray)), (3, .int .i64 80)]) (by kernel_rfl) ?_
      have hS218 := hS214.drop
      refine runs_ret (fn := Tryd.f8) (v := .tuple #[.string (⟨#[]⟩ : ByteArray), .int .i64 80]) Tryd.func8 (by kernel_rfl) ?_
      have hr219 := (hq51 _ (Option.some.inj hp217))
      cases hr219
      exact hR _ _ ⟨rfl, hS218⟩
     ·skip
      have hp220 := ite_f hp212 h216
      refine sx_run 5 (todo' := [.inRegion (opsOf (cd8 [1, 1, 1, 1, 0, 0])) [19, 20, 21, 22, 23, 24], .code (cd8 [1, 1, 1, 1, 0, 1]), .code (cd8 [1, 1, 1, 1, 1])]) (us := [(82, .bool false), (83, .bool false), (84, .bool false), (85, .bool t27), (86, .bool t27)]) (by kernel_rfl) ?_
      cases t27
      ·skip
       have hp221 := ite_f hp220 rfl
       refine sx_run 9 (todo' := [.code (cd8 [1, 1, 1, 1, 1])]) (us := [(87, undef), (88, undef), (89, undef), (90, undef), (91, .bool false), (92, .bool false)]) (by kernel_rfl) ?_
       refine Runs.fill (m := [none, some (.pointer (some ⟨b1, 0, none⟩)), none, none, some (.string t10), some (.string t11), none, none, none, none, none, none, none, none, none, none, none, none, none, none, none, none, none, none, none, none, none, none, none, none, none, none, none, none, none, none, none, none, none, none, none, none, none, none, none, none, none, none, none, none, none, none, none, none, none, none, none, none, none, none, none, none, none, none, none, none, none, none, none, none, none, none, none, none, none, none, none, none, none, none, none, none, none, none, none, none, none, none, none, none, none, none, none, none, none, none, none, none, none, none, none, none, none, none, none, none, none, none, none, none, none, none, none, none, none, none, none, none, none, none, none, none, none, none, none]) (by kernel_rfl) ?_
       exact J52 (Option.some.inj hp221) _ _ hS214
      ·skip
       have hp222 := ite_t hp220 rfl
       refine sx_run 1 (todo' := [.inRegion (opsOf (cd8 [1, 1, 1, 1, 0, 0])) [20, 21, 22, 23, 24], .code (cd8 [1, 1, 1, 1, 0, 1]), .code (cd8 [1, 1, 1, 1, 1])]) (us := [(87, .pointer (some ⟨b1, 3, none⟩))]) (by kernel_rfl) ?_
       refine r_load (c := (cd8 [1, 1, 1, 1, 0, 0])) (i := 20) (d := (some 88)) (ty := 9) (t := 9) (x := (.tmp 87)) (p := ⟨b1, 3, none⟩) (v := .string a0.Loc) (by kernel_rfl) (by kernel_rfl) (by kernel_rfl) (loads_at 3 (hS214.blk 0 rfl) (by kernel_rfl) (by kernel_rfl)) ?_
       obtain ⟨t223, hr224, hp225⟩ := bind_some' hp222
       refine r_call1 (c := (cd8 [1, 1, 1, 1, 0, 0])) (i := 21) (d := (some 89)) (g := 11) (args := #[.string a0.Loc]) (by kernel_rfl) (by kernel_rfl) (by kernel_rfl) (by kernel_rfl) (lexis_Name.ok a0.Loc hS214 hr224) ?_
       rintro _ w226 ⟨rfl, hS227⟩
       refine ⟨.bool t223, rfl, ?_⟩
       refine sx_split 1 (todo' := [.inRegion (opsOf (cd8 [1, 1, 1, 1, 0, 0])) [23, 24], .code (cd8 [1, 1, 1, 1, 0, 1]), .code (cd8 [1, 1, 1, 1, 1])]) (us := []) (d := 90) (t := (!t223)) (by kernel_rfl) (fun h228 => ?_) (fun h229 => ?_)
       ·skip
        have hp230 := ite_t hp225 h228
        refine sx_run 9 (todo' := [.code (cd8 [1, 1, 1, 1, 0, 1, 0, 1]), .code (cd8 [1, 1, 1, 1, 1])]) (us := [(91, .bool true), (92, .bool true), (2, .string (⟨#[]⟩ : ByteArray)), (3, .int .i64 80)]) (by kernel_rfl) ?_
        have hS231 := hS227.drop
        refine runs_ret (fn := Tryd.f8) (v := .tuple #[.string (⟨#[]⟩ : ByteArray), .int .i64 80]) Tryd.func8 (by kernel_rfl) ?_
        have hr232 := (hq51 _ (Option.some.inj hp230))
        cases hr232
        exact hR _ _ ⟨rfl, hS231⟩
       ·skip
        have hp233 := ite_f hp225 h229
        refine sx_run 5 (todo' := [.code (cd8 [1, 1, 1, 1, 1])]) (us := [(91, .bool false), (92, .bool false)]) (by kernel_rfl) ?_
        refine Runs.fill (m := [none, some (.pointer (some ⟨b1, 0, none⟩)), none, none, some (.string t10), some (.string t11), none, none, none, none, none, none, none, none, none, none, none, none, none, none, none, none, none, none, none, none, none, none, none, none, none, none, none, none, none, none, none, none, none, none, none, none, none, none, none, none, none, none, none, none, none, none, none, none, none, none, none, none, none, none, none, none, none, none, none, none, none, none, none, none, none, none, none, none, none, none, none, none, none, none, none, none, none, none, none, none, none, none, none, none, none, none, none, none, none, none, none, none, none, none, none, none, none, none, none, none, none, none, none, none, none, none, none, none, none, none, none, none, none, none, none, none, none, none, none]) (by kernel_rfl) ?_
        exact J52 (Option.some.inj hp233) _ _ hS227
   ·skip
    have hp234 := ite_t hv47 rfl
    refine sx_run 1 (todo' := [.inRegion (opsOf (cd8 [1, 1, 1, 1, 0, 0])) [3, 4, 5, 6, 7, 8, 9, 10, 11, 12, 13, 14, 15, 16, 17, 18, 19, 20, 21, 22, 23, 24], .code (cd8 [1, 1, 1, 1, 0, 1]), .code (cd8 [1, 1, 1, 1, 1])]) (us := [(70, .pointer (some ⟨b1, 1, none⟩))]) (by kernel_rfl) ?_
    refine r_load (c := (cd8 [1, 1, 1, 1, 0, 0])) (i := 3) (d := (some 71)) (ty := 9) (t := 9) (x := (.tmp 70)) (p := ⟨b1, 1, none⟩) (v := .string a0.Reg) (by kernel_rfl) (by kernel_rfl) (by kernel_rfl) (loads_at 1 (hS41.blk 0 rfl) (by kernel_rfl) (by kernel_rfl)) ?_
    obtain ⟨t235, hr236, hp237⟩ := bind_some' hp234
    refine r_call1 (c := (cd8 [1, 1, 1, 1, 0, 0])) (i := 4) (d := (some 72)) (g := 11) (args := #[.string a0.Reg]) (by kernel_rfl) (by kernel_rfl) (by kernel_rfl) (by kernel_rfl) (lexis_Name.ok a0.Reg hS41 hr236) ?_
    rintro _ w238 ⟨rfl, hS239⟩
    refine ⟨.bool t235, rfl, ?_⟩
    refine sx_split 1 (todo' := [.inRegion (opsOf (cd8 [1, 1, 1, 1, 0, 0])) [6, 7, 8, 9, 10, 11, 12, 13, 14, 15, 16, 17, 18, 19, 20, 21, 22, 23, 24], .code (cd8 [1, 1, 1, 1, 0, 1]), .code (cd8 [1, 1, 1, 1, 1])]) (us := []) (d := 73) (t := (!t235)) (by kernel_rfl) (fun h240 => ?_) (fun h241 => ?_)
    ·skip
     have hp242 := ite_t hp237 h240
     refine sx_run 26 (todo' := [.code (cd8 [1, 1, 1, 1, 0, 1, 0, 1]), .code (cd8 [1, 1, 1, 1, 1])]) (us := [(74, .bool true), (75, .bool true), (76, undef), (77, undef), (78, undef), (79, undef), (80, undef), (81, undef), (82, undef), (83, .bool true), (84, .bool true), (85, undef), (86, undef), (87, undef), (88, undef), (89, undef), (90, undef), (91, undef), (92, .bool true), (2, .string (⟨#[]⟩ : ByteArray)), (3, .int .i64 80)]) (by kernel_rfl) ?_
     have hS243 := hS239.drop
     refine runs_ret (fn := Tryd.f8) (v := .tuple #[.string (⟨#[]⟩ : ByteArray), .int .i64 80]) Tryd.func8 (by kernel_rfl) ?_
     have hr244 := (hq51 _ (Option.some.inj hp242))
     cases hr244
     exact hR _ _ ⟨rfl, hS243⟩
    ·skip
     have hp245 := ite_f hp237 h241
     refine sx_run 4 (todo' := [.inRegion (opsOf (cd8 [1, 1, 1, 1, 0, 0])) [10, 11, 12, 13, 14, 15, 16, 17, 18, 19, 20, 21, 22, 23, 24], .code (cd8 [1, 1, 1, 1, 0, 1]), .code (cd8 [1, 1, 1, 1, 1])]) (us := [(74, .bool false), (75, .bool false), (76, .bool t22), (77, .bool t22)]) (by kernel_rfl) ?_
     cases t22
     ·skip
      have hp246 := ite_f hp245 rfl
      refine sx_run 9 (todo' := [.inRegion (opsOf (cd8 [1, 1, 1, 1, 0, 0])) [19, 20, 21, 22, 23, 24], .code (cd8 [1, 1, 1, 1, 0, 1]), .code (cd8 [1, 1, 1, 1, 1])]) (us := [(78, undef), (79, undef), (80, undef), (81, undef), (82, .bool false), (83, .bool false), (84, .bool false), (85, .bool t27), (86, .bool t27)]) (by kernel_rfl) ?_
      cases t27
      ·skip
       have hp247 := ite_f hp246 rfl
       refine sx_run 9 (todo' := [.code (cd8 [1, 1, 1, 1, 1])]) (us := [(87, undef), (88, undef), (89, undef), (90, undef), (91, .bool false), (92, .bool false)]) (by kernel_rfl) ?_
       refine Runs.fill (m := [none, some (.pointer (some ⟨b1, 0, none⟩)), none, none, some (.string t10), some (.string t11), none, none, none, none, none, none, none, none, none, none, none, none, none, none, none, none, none, none, none, none, none, none, none, none, none, none, none, none, none, none, none, none, none, none, none, none, none, none, none, none, none, none, none, none, none, none, none, none, none, none, none, none, none, none, none, none, none, none, none, none, none, none, none, none, none, none, none, none, none, none, none, none, none, none, none, none, none, none, none, none, none, none, none, none, none, none, none, none, none, none, none, none, none, none, none, none, none, none, none, none, none, none, none, none, none, none, none, none, none, none, none, none, none, none, none, none, none, none, none]) (by kernel_rfl) ?_
       exact J52 (Option.some.inj hp247) _ _ hS239
      ·skip
       have hp248 := ite_t hp246 rfl
       refine sx_run 1 (todo' := [.inRegion (opsOf (cd8 [1, 1, 1, 1, 0, 0])) [20, 21, 22, 23, 24], .code (cd8 [1, 1, 1, 1, 0, 1]), .code (cd8 [1, 1, 1, 1, 1])]) (us := [(87, .pointer (some ⟨b1, 3, none⟩))]) (by kernel_rfl) ?_
       refine r_load (c := (cd8 [1, 1, 1, 1, 0, 0])) (i := 20) (d := (some 88)) (ty := 9) (t := 9) (x := (.tmp 87)) (p := ⟨b1, 3, none⟩) (v := .string a0.Loc) (by kernel_rfl) (by kernel_rfl) (by kernel_rfl) (loads_at 3 (hS239.blk 0 rfl) (by kernel_rfl) (by kernel_rfl)) ?_
       obtain ⟨t249, hr250, hp251⟩ := bind_some' hp248
       refine r_call1 (c := (cd8 [1, 1, 1, 1, 0, 0])) (i := 21) (d := (some 89)) (g := 11) (args := #[.string a0.Loc]) (by kernel_rfl) (by kernel_rfl) (by kernel_rfl) (by kernel_rfl) (lexis_Name.ok a0.Loc hS239 hr250) ?_
       rintro _ w252 ⟨rfl, hS253⟩
       refine ⟨.bool t249, rfl, ?_⟩
       refine sx_split 1 (todo' := [.inRegion (opsOf (cd8 [1, 1, 1, 1, 0, 0])) [23, 24], .code (cd8 [1, 1, 1, 1, 0, 1]), .code (cd8 [1, 1, 1, 1, 1])]) (us := []) (d := 90) (t := (!t249)) (by kernel_rfl) (fun h254 => ?_) (fun h255 => ?_)
       ·skip
        have hp256 := ite_t hp251 h254
        refine sx_run 9 (todo' := [.code (cd8 [1, 1, 1, 1, 0, 1, 0, 1]), .code (cd8 [1, 1, 1, 1, 1])]) (us := [(91, .bool true), (92, .bool true), (2, .string (⟨#[]⟩ : ByteArray)), (3, .int .i64 80)]) (by kernel_rfl) ?_
        have hS257 := hS253.drop
        refine runs_ret (fn := Tryd.f8) (v := .tuple #[.string (⟨#[]⟩ : ByteArray), .int .i64 80]) Tryd.func8 (by kernel_rfl) ?_
        have hr258 := (hq51 _ (Option.some.inj hp256))
        cases hr258
        exact hR _ _ ⟨rfl, hS257⟩
       ·skip
        have hp259 := ite_f hp251 h255
        refine sx_run 5 (todo' := [.code (cd8 [1, 1, 1, 1, 1])]) (us := [(91, .bool false), (92, .bool false)]) (by kernel_rfl) ?_
        refine Runs.fill (m := [none, some (.pointer (some ⟨b1, 0, none⟩)), none, none, some (.string t10), some (.string t11), none, none, none, none, none, none, none, none, none, none, none, none, none, none, none, none, none, none, none, none, none, none, none, none, none, none, none, none, none, none, none, none, none, none, none, none, none, none, none, none, none, none, none, none, none, none, none, none, none, none, none, none, none, none, none, none, none, none, none, none, none, none, none, none, none, none, none, none, none, none, none, none, none, none, none, none, none, none, none, none, none, none, none, none, none, none, none, none, none, none, none, none, none, none, none, none, none, none, none, none, none, none, none, none, none, none, none, none, none, none, none, none, none, none, none, none, none, none, none]) (by kernel_rfl) ?_
        exact J52 (Option.some.inj hp259) _ _ hS253
     ·skip
      have hp260 := ite_t hp245 rfl
      refine sx_run 1 (todo' := [.inRegion (opsOf (cd8 [1, 1, 1, 1, 0, 0])) [11, 12, 13, 14, 15, 16, 17, 18, 19, 20, 21, 22, 23, 24], .code (cd8 [1, 1, 1, 1, 0, 1]), .code (cd8 [1, 1, 1, 1, 1])]) (us := [(78, .pointer (some ⟨b1, 2, none⟩))]) (by kernel_rfl) ?_
      refine r_load (c := (cd8 [1, 1, 1, 1, 0, 0])) (i := 11) (d := (some 79)) (ty := 9) (t := 9) (x := (.tmp 78)) (p := ⟨b1, 2, none⟩) (v := .string a0.Src) (by kernel_rfl) (by kernel_rfl) (by kernel_rfl) (loads_at 2 (hS239.blk 0 rfl) (by kernel_rfl) (by kernel_rfl)) ?_
      obtain ⟨t261, hr262, hp263⟩ := bind_some' hp260
      refine r_call1 (c := (cd8 [1, 1, 1, 1, 0, 0])) (i := 12) (d := (some 80)) (g := 11) (args := #[.string a0.Src]) (by kernel_rfl) (by kernel_rfl) (by kernel_rfl) (by kernel_rfl) (lexis_Name.ok a0.Src hS239 hr262) ?_
      rintro _ w264 ⟨rfl, hS265⟩
      refine ⟨.bool t261, rfl, ?_⟩
      refine sx_split 1 (todo' := [.inRegion (opsOf (cd8 [1, 1, 1, 1, 0, 0])) [14, 15, 16, 17, 18, 19, 20, 21, 22, 23, 24], .code (cd8 [1, 1, 1, 1, 0, 1]), .code (cd8 [1, 1, 1, 1, 1])]) (us := []) (d := 81) (t := (!t261)) (by kernel_rfl) (fun h266 => ?_) (fun h267 => ?_)
      ·skip
       have hp268 := ite_t hp263 h266
       refine sx_run 18 (todo' := [.code (cd8 [1, 1, 1, 1, 0, 1, 0, 1]), .code (cd8 [1, 1, 1, 1, 1])]) (us := [(82, .bool true), (83, .bool true), (84, .bool true), (85, undef), (86, undef), (87, undef), (88, undef), (89, undef), (90, undef), (91, undef), (92, .bool true), (2, .string (⟨#[]⟩ : ByteArray)), (3, .int .i64 80)]) (by kernel_rfl) ?_
       have hS269 := hS265.drop
       refine runs_ret (fn := Tryd.f8) (v := .tuple #[.string (⟨#[]⟩ : ByteArray), .int .i64 80]) Tryd.func8 (by kernel_rfl) ?_
       have hr270 := (hq51 _ (Option.some.inj hp268))
       cases hr270
       exact hR _ _ ⟨rfl, hS269⟩
      ·skip
       have hp271 := ite_f hp263 h267
       refine sx_run 5 (todo' := [.inRegion (opsOf (cd8 [1, 1, 1, 1, 0, 0])) [19, 20, 21, 22, 23, 24], .code (cd8 [1, 1, 1, 1, 0, 1]), .code (cd8 [1, 1, 1, 1, 1])]) (us := [(82, .bool false), (83, .bool false), (84, .bool false), (85, .bool t27), (86, .bool t27)]) (by kernel_rfl) ?_
       cases t27
       ·skip
        have hp272 := ite_f hp271 rfl
        refine sx_run 9 (todo' := [.code (cd8 [1, 1, 1, 1, 1])]) (us := [(87, undef), (88, undef), (89, undef), (90, undef), (91, .bool false), (92, .bool false)]) (by kernel_rfl) ?_
        refine Runs.fill (m := [none, some (.pointer (some ⟨b1, 0, none⟩)), none, none, some (.string t10), some (.string t11), none, none, none, none, none, none, none, none, none, none, none, none, none, none, none, none, none, none, none, none, none, none, none, none, none, none, none, none, none, none, none, none, none, none, none, none, none, none, none, none, none, none, none, none, none, none, none, none, none, none, none, none, none, none, none, none, none, none, none, none, none, none, none, none, none, none, none, none, none, none, none, none, none, none, none, none, none, none, none, none, none, none, none, none, none, none, none, none, none, none, none, none, none, none, none, none, none, none, none, none, none, none, none, none, none, none, none, none, none, none, none, none, none, none, none, none, none, none, none]) (by kernel_rfl) ?_
        exact J52 (Option.some.inj hp272) _ _ hS265
       ·skip
        have hp273 := ite_t hp271 rfl
        refine sx_run 1 (todo' := [.inRegion (opsOf (cd8 [1, 1, 1, 1, 0, 0])) [20, 21, 22, 23, 24], .code (cd8 [1, 1, 1, 1, 0, 1]), .code (cd8 [1, 1, 1, 1, 1])]) (us := [(87, .pointer (some ⟨b1, 3, none⟩))]) (by kernel_rfl) ?_
        refine r_load (c := (cd8 [1, 1, 1, 1, 0, 0])) (i := 20) (d := (some 88)) (ty := 9) (t := 9) (x := (.tmp 87)) (p := ⟨b1, 3, none⟩) (v := .string a0.Loc) (by kernel_rfl) (by kernel_rfl) (by kernel_rfl) (loads_at 3 (hS265.blk 0 rfl) (by kernel_rfl) (by kernel_rfl)) ?_
        obtain ⟨t274, hr275, hp276⟩ := bind_some' hp273
        refine r_call1 (c := (cd8 [1, 1, 1, 1, 0, 0])) (i := 21) (d := (some 89)) (g := 11) (args := #[.string a0.Loc]) (by kernel_rfl) (by kernel_rfl) (by kernel_rfl) (by kernel_rfl) (lexis_Name.ok a0.Loc hS265 hr275) ?_
        rintro _ w277 ⟨rfl, hS278⟩
        refine ⟨.bool t274, rfl, ?_⟩
        refine sx_split 1 (todo' := [.inRegion (opsOf (cd8 [1, 1, 1, 1, 0, 0])) [23, 24], .code (cd8 [1, 1, 1, 1, 0, 1]), .code (cd8 [1, 1, 1, 1, 1])]) (us := []) (d := 90) (t := (!t274)) (by kernel_rfl) (fun h279 => ?_) (fun h280 => ?_)
        ·skip
         have hp281 := ite_t hp276 h279
         refine sx_run 9 (todo' := [.code (cd8 [1, 1, 1, 1, 0, 1, 0, 1]), .code (cd8 [1, 1, 1, 1, 1])]) (us := [(91, .bool true), (92, .bool true), (2, .string (⟨#[]⟩ : ByteArray)), (3, .int .i64 80)]) (by kernel_rfl) ?_
         have hS282 := hS278.drop
         refine runs_ret (fn := Tryd.f8) (v := .tuple #[.string (⟨#[]⟩ : ByteArray), .int .i64 80]) Tryd.func8 (by kernel_rfl) ?_
         have hr283 := (hq51 _ (Option.some.inj hp281))
         cases hr283
         exact hR _ _ ⟨rfl, hS282⟩
        ·skip
         have hp284 := ite_f hp276 h280
         refine sx_run 5 (todo' := [.code (cd8 [1, 1, 1, 1, 1])]) (us := [(91, .bool false), (92, .bool false)]) (by kernel_rfl) ?_
         refine Runs.fill (m := [none, some (.pointer (some ⟨b1, 0, none⟩)), none, none, some (.string t10), some (.string t11), none, none, none, none, none, none, none, none, none, none, none, none, none, none, none, none, none, none, none, none, none, none, none, none, none, none, none, none, none, none, none, none, none, none, none, none, none, none, none, none, none, none, none, none, none, none, none, none, none, none, none, none, none, none, none, none, none, none, none, none, none, none, none, none, none, none, none, none, none, none, none, none, none, none, none, none, none, none, none, none, none, none, none, none, none, none, none, none, none, none, none, none, none, none, none, none, none, none, none, none, none, none, none, none, none, none, none, none, none, none, none, none, none, none, none, none, none, none, none]) (by kernel_rfl) ?_
         exact J52 (Option.some.inj hp284) _ _ hS278
  refine sx_split 1 (todo' := [.inRegion (opsOf (cd8 [1, 1, 1, 0, 0])) [4, 5, 6, 7, 8, 9, 10, 11, 12, 13, 14, 15, 16, 17, 18, 19, 20, 21, 22, 23, 24, 25, 26, 27, 28, 29, 30, 31, 32, 33, 34, 35, 36, 37, 38, 39, 40], .code (cd8 [1, 1, 1, 0, 1]), .code (cd8 [1, 1, 1, 1])]) (us := []) (d := 30) (t := (seq t32 (⟨#[]⟩ : ByteArray))) (by kernel_rfl) (fun h285 => ?_) (fun h286 => ?_)
  ·skip
   have hp287 := ite_t hv38 h285
   refine sx_run 44 (todo' := [.code (cd8 [1, 1, 1, 0, 1, 0, 1]), .code (cd8 [1, 1, 1, 1])]) (us := [(31, .bool true), (32, undef), (33, undef), (34, undef), (35, undef), (36, undef), (37, undef), (38, undef), (39, .bool true), (40, .bool true), (41, undef), (42, undef), (43, undef), (44, undef), (45, undef), (46, undef), (47, undef), (48, .bool true), (49, .bool true), (50, undef), (51, undef), (52, undef), (53, undef), (54, undef), (55, undef), (56, undef), (57, .bool true), (58, .bool true), (59, undef), (60, undef), (61, undef), (62, undef), (63, undef), (64, undef), (65, undef), (66, undef), (67, .bool true), (2, .string (⟨#[]⟩ : ByteArray)), (3, .int .i64 80)]) (by kernel_rfl) ?_
   have hS288 := hS36.drop
   refine runs_ret (fn := Tryd.f8) (v := .tuple #[.string (⟨#[]⟩ : ByteArray), .int .i64 80]) Tryd.func8 (by kernel_rfl) ?_
   have hr289 := (hq42 _ (Option.some.inj hp287))
   cases hr289
   exact hR _ _ ⟨rfl, hS288⟩
  ·skip
   have hp290 := ite_f hv38 h286
   refine sx_split 3 (todo' := [.inRegion (opsOf (cd8 [1, 1, 1, 0, 0])) [7, 8, 9, 10, 11, 12, 13, 14, 15, 16, 17, 18, 19, 20, 21, 22, 23, 24, 25, 26, 27, 28, 29, 30, 31, 32, 33, 34, 35, 36, 37, 38, 39, 40], .code (cd8 [1, 1, 1, 0, 1]), .code (cd8 [1, 1, 1, 1])]) (us := [(31, .bool false), (32, .bool t17)]) (d := 33) (t := (!t17)) (by kernel_rfl) (fun h291 => ?_) (fun h292 => ?_)
   ·skip
    have hp293 := ite_t hp290 h291
    refine sx_run 2 (todo' := [.inRegion (opsOf (cd8 [1, 1, 1, 0, 0])) [9, 10, 11, 12, 13, 14, 15, 16, 17, 18, 19, 20, 21, 22, 23, 24, 25, 26, 27, 28, 29, 30, 31, 32, 33, 34, 35, 36, 37, 38, 39, 40], .code (cd8 [1, 1, 1, 0, 1]), .code (cd8 [1, 1, 1, 1])]) (us := [(34, .bool true), (35, .pointer (some ⟨b1, 1, none⟩))]) (by kernel_rfl) ?_
    refine r_load (c := (cd8 [1, 1, 1, 0, 0])) (i := 9) (d := (some 36)) (ty := 9) (t := 9) (x := (.tmp 35)) (p := ⟨b1, 1, none⟩) (v := .string a0.Reg) (by kernel_rfl) (by kernel_rfl) (by kernel_rfl) (loads_at 1 (hS36.blk 0 rfl) (by kernel_rfl) (by kernel_rfl)) ?_
    refine sx_split 1 (todo' := [.inRegion (opsOf (cd8 [1, 1, 1, 0, 0])) [11, 12, 13, 14, 15, 16, 17, 18, 19, 20, 21, 22, 23, 24, 25, 26, 27, 28, 29, 30, 31, 32, 33, 34, 35, 36, 37, 38, 39, 40], .code (cd8 [1, 1, 1, 0, 1]), .code (cd8 [1, 1, 1, 1])]) (us := []) (d := 37) (t := (!seq a0.Reg (⟨#[]⟩ : ByteArray))) (by kernel_rfl) (fun h294 => ?_) (fun h295 => ?_)
    ·skip
     have hp296 := ite_t hp293 h294
     refine sx_run 37 (todo' := [.code (cd8 [1, 1, 1, 0, 1, 0, 1]), .code (cd8 [1, 1, 1, 1])]) (us := [(38, .bool true), (39, .bool true), (40, .bool true), (41, undef), (42, undef), (43, undef), (44, undef), (45, undef), (46, undef), (47, undef), (48, .bool true), (49, .bool true), (50, undef), (51, undef), (52, undef), (53, undef), (54, undef), (55, undef), (56, undef), (57, .bool true), (58, .bool true), (59, undef), (60, undef), (61, undef), (62, undef), (63, undef), (64, undef), (65, undef), (66, undef), (67, .bool true), (2, .string (⟨#[]⟩ : ByteArray)), (3, .int .i64 80)]) (by kernel_rfl) ?_
     have hS297 := hS36.drop
     refine runs_ret (fn := Tryd.f8) (v := .tuple #[.string (⟨#[]⟩ : ByteArray), .int .i64 80]) Tryd.func8 (by kernel_rfl) ?_
     have hr298 := (hq42 _ (Option.some.inj hp296))
     cases hr298
     exact hR _ _ ⟨rfl, hS297⟩
    ·skip
     have hp299 := ite_f hp293 h295
     refine sx_split 5 (todo' := [.inRegion (opsOf (cd8 [1, 1, 1, 0, 0])) [16, 17, 18, 19, 20, 21, 22, 23, 24, 25, 26, 27, 28, 29, 30, 31, 32, 33, 34, 35, 36, 37, 38, 39, 40], .code (cd8 [1, 1, 1, 0, 1]), .code (cd8 [1, 1, 1, 1])]) (us := [(38, .bool false), (39, .bool false), (40, .bool false), (41, .bool t22)]) (d := 42) (t := (!t22)) (by kernel_rfl) (fun h300 => ?_) (fun h301 => ?_)
     ·skip
      have hp302 := ite_t hp299 h300
      refine sx_run 2 (todo' := [.inRegion (opsOf (cd8 [1, 1, 1, 0, 0])) [18, 19, 20, 21, 22, 23, 24, 25, 26, 27, 28, 29, 30, 31, 32, 33, 34, 35, 36, 37, 38, 39, 40], .code (cd8 [1, 1, 1, 0, 1]), .code (cd8 [1, 1, 1, 1])]) (us := [(43, .bool true), (44, .pointer (some ⟨b1, 2, none⟩))]) (by kernel_rfl) ?_
      refine r_load (c := (cd8 [1, 1, 1, 0, 0])) (i := 18) (d := (some 45)) (ty := 9) (t := 9) (x := (.tmp 44)) (p := ⟨b1, 2, none⟩) (v := .string a0.Src) (by kernel_rfl) (by kernel_rfl) (by kernel_rfl) (loads_at 2 (hS36.blk 0 rfl) (by kernel_rfl) (by kernel_rfl)) ?_
      refine sx_split 1 (todo' := [.inRegion (opsOf (cd8 [1, 1, 1, 0, 0])) [20, 21, 22, 23, 24, 25, 26, 27, 28, 29, 30, 31, 32, 33, 34, 35, 36, 37, 38, 39, 40], .code (cd8 [1, 1, 1, 0, 1]), .code (cd8 [1, 1, 1, 1])]) (us := []) (d := 46) (t := (!seq a0.Src (⟨#[]⟩ : ByteArray))) (by kernel_rfl) (fun h303 => ?_) (fun h304 => ?_)
      ·skip
       have hp305 := ite_t hp302 h303
       refine sx_run 28 (todo' := [.code (cd8 [1, 1, 1, 0, 1, 0, 1]), .code (cd8 [1, 1, 1, 1])]) (us := [(47, .bool true), (48, .bool true), (49, .bool true), (50, undef), (51, undef), (52, undef), (53, undef), (54, undef), (55, undef), (56, undef), (57, .bool true), (58, .bool true), (59, undef), (60, undef), (61, undef), (62, undef), (63, undef), (64, undef), (65, undef), (66, undef), (67, .bool true), (2, .string (⟨#[]⟩ : ByteArray)), (3, .int .i64 80)]) (by kernel_rfl) ?_
       have hS306 := hS36.drop
       refine runs_ret (fn := Tryd.f8) (v := .tuple #[.string (⟨#[]⟩ : ByteArray), .int .i64 80]) Tryd.func8 (by kernel_rfl) ?_
       have hr307 := (hq42 _ (Option.some.inj hp305))
       cases hr307
       exact hR _ _ ⟨rfl, hS306⟩
      ·skip
       have hp308 := ite_f hp302 h304
       refine sx_split 5 (todo' := [.inRegion (opsOf (cd8 [1, 1, 1, 0, 0])) [25, 26, 27, 28, 29, 30, 31, 32, 33, 34, 35, 36, 37, 38, 39, 40], .code (cd8 [1, 1, 1, 0, 1]), .code (cd8 [1, 1, 1, 1])]) (us := [(47, .bool false), (48, .bool false), (49, .bool false), (50, .bool t27)]) (d := 51) (t := (!t27)) (by kernel_rfl) (fun h309 => ?_) (fun h310 => ?_)
       ·skip
        have hp311 := ite_t hp308 h309
        refine sx_run 2 (todo' := [.inRegion (opsOf (cd8 [1, 1, 1, 0, 0])) [27, 28, 29, 30, 31, 32, 33, 34, 35, 36, 37, 38, 39, 40], .code (cd8 [1, 1, 1, 0, 1]), .code (cd8 [1, 1, 1, 1])]) (us := [(52, .bool true), (53, .pointer (some ⟨b1, 3, none⟩))]) (by kernel_rfl) ?_
        refine r_load (c := (cd8 [1, 1, 1, 0, 0])) (i := 27) (d := (some 54)) (ty := 9) (t := 9) (x := (.tmp 53)) (p := ⟨b1, 3, none⟩) (v := .string a0.Loc) (by kernel_rfl) (by kernel_rfl) (by kernel_rfl) (loads_at 3 (hS36.blk 0 rfl) (by kernel_rfl) (by kernel_rfl)) ?_
        refine sx_split 1 (todo' := [.inRegion (opsOf (cd8 [1, 1, 1, 0, 0])) [29, 30, 31, 32, 33, 34, 35, 36, 37, 38, 39, 40], .code (cd8 [1, 1, 1, 0, 1]), .code (cd8 [1, 1, 1, 1])]) (us := []) (d := 55) (t := (!seq a0.Loc (⟨#[]⟩ : ByteArray))) (by kernel_rfl) (fun h312 => ?_) (fun h313 => ?_)
        ·skip
         have hp314 := ite_t hp311 h312
         refine sx_run 19 (todo' := [.code (cd8 [1, 1, 1, 0, 1, 0, 1]), .code (cd8 [1, 1, 1, 1])]) (us := [(56, .bool true), (57, .bool true), (58, .bool true), (59, undef), (60, undef), (61, undef), (62, undef), (63, undef), (64, undef), (65, undef), (66, undef), (67, .bool true), (2, .string (⟨#[]⟩ : ByteArray)), (3, .int .i64 80)]) (by kernel_rfl) ?_
         have hS315 := hS36.drop
         refine runs_ret (fn := Tryd.f8) (v := .tuple #[.string (⟨#[]⟩ : ByteArray), .int .i64 80]) Tryd.func8 (by kernel_rfl) ?_
         have hr316 := (hq42 _ (Option.some.inj hp314))
         cases hr316
         exact hR _ _ ⟨rfl, hS315⟩
        ·skip
         have hp317 := ite_f hp311 h313
         refine sx_run 4 (todo' := [.inRegion (opsOf (cd8 [1, 1, 1, 0, 0])) [33, 34, 35, 36, 37, 38, 39, 40], .code (cd8 [1, 1, 1, 0, 1]), .code (cd8 [1, 1, 1, 1])]) (us := [(56, .bool false), (57, .bool false), (58, .bool false), (59, .string t11)]) (by kernel_rfl) ?_
         obtain ⟨t318, hr319, hp320⟩ := bind_some' hp317
         refine r_call1 (c := (cd8 [1, 1, 1, 0, 0])) (i := 33) (d := (some 60)) (g := 18) (args := #[.string t11, .string (⟨#[86]⟩ : ByteArray)]) (by kernel_rfl) (by kernel_rfl) (by kernel_rfl) (by kernel_rfl) (strings_Contains.ok t11 (⟨#[86]⟩ : ByteArray) hS36 hr319) ?_
         rintro _ w321 ⟨rfl, hS322⟩
         refine ⟨.bool t318, rfl, ?_⟩
         refine sx_split 1 (todo' := [.inRegion (opsOf (cd8 [1, 1, 1, 0, 0])) [35, 36, 37, 38, 39, 40], .code (cd8 [1, 1, 1, 0, 1]), .code (cd8 [1, 1, 1, 1])]) (us := []) (d := 61) (t := (!t318)) (by kernel_rfl) (fun h323 => ?_) (fun h324 => ?_)
         ·skip
          have hp325 := ite_t hp320 h323
          refine sx_run 2 (todo' := [.inRegion (opsOf (cd8 [1, 1, 1, 0, 0])) [37, 38, 39, 40], .code (cd8 [1, 1, 1, 0, 1]), .code (cd8 [1, 1, 1, 1])]) (us := [(62, .bool true), (63, .pointer (some ⟨b1, 4, none⟩))]) (by kernel_rfl) ?_
          refine r_load (c := (cd8 [1, 1, 1, 0, 0])) (i := 37) (d := (some 64)) (ty := 2) (t := 2) (x := (.tmp 63)) (p := ⟨b1, 4, none⟩) (v := .int .i64 a0.Imm) (by kernel_rfl) (by kernel_rfl) (by kernel_rfl) (loads_at 4 (hS322.blk 0 rfl) (by kernel_rfl) (by kernel_rfl)) ?_
          refine sx_split 1 (todo' := [.inRegion (opsOf (cd8 [1, 1, 1, 0, 0])) [39, 40], .code (cd8 [1, 1, 1, 0, 1]), .code (cd8 [1, 1, 1, 1])]) (us := []) (d := 65) (t := (a0.Imm != 0)) (by kernel_rfl) (fun h326 => ?_) (fun h327 => ?_)
          ·skip
           have hp328 := ite_t hp325 h326
           refine sx_run 9 (todo' := [.code (cd8 [1, 1, 1, 0, 1, 0, 1]), .code (cd8 [1, 1, 1, 1])]) (us := [(66, .bool true), (67, .bool true), (2, .string (⟨#[]⟩ : ByteArray)), (3, .int .i64 80)]) (by kernel_rfl) ?_
           have hS329 := hS322.drop
           refine runs_ret (fn := Tryd.f8) (v := .tuple #[.string (⟨#[]⟩ : ByteArray), .int .i64 80]) Tryd.func8 (by kernel_rfl) ?_
           have hr330 := (hq42 _ (Option.some.inj hp328))
           cases hr330
           exact hR _ _ ⟨rfl, hS329⟩
          ·skip
           have hp331 := ite_f hp325 h327
           refine sx_run 5 (todo' := [.code (cd8 [1, 1, 1, 1])]) (us := [(66, .bool false), (67, .bool false)]) (by kernel_rfl) ?_
           refine Runs.fill (m := [none, some (.pointer (some ⟨b1, 0, none⟩)), none, none, some (.string t10), some (.string t11), none, some (.bool t17), some (.bool t22), some (.bool t27), none, none, none, none, none, none, none, none, none, none, none, none, none, none, none, none, none, none, none, none, none, none, none, none, none, none, none, none, none, none, none, none, none, none, none, none, none, none, none, none, none, none, none, none, none, none, none, none, none, none, none, none, none, none, none, none, none, none, none, none, none, none, none, none, none, none, none, none, none, none, none, none, none, none, none, none, none, none, none, none, none, none, none, none, none, none, none, none, none, none, none, none, none, none, none, none, none, none, none, none, none, none, none, none, none, none, none, none, none, none, none, none, none, none, none]) (by kernel_rfl) ?_
           exact J43 (Option.some.inj hp331) _ _ hS322
         ·skip
          have hp332 := ite_f hp320 h324
          refine sx_run 9 (todo' := [.code (cd8 [1, 1, 1, 1])]) (us := [(62, .bool false), (63, undef), (64, undef), (65, undef), (66, .bool false), (67, .bool false)]) (by kernel_rfl) ?_
          refine Runs.fill (m := [none, some (.pointer (some ⟨b1, 0, none⟩)), none, none, some (.string t10), some (.string t11), none, some (.bool t17), some (.bool t22), some (.bool t27), none, none, none, none, none, none, none, none, none, none, none, none, none, none, none, none, none, none, none, none, none, none, none, none, none, none, none, none, none, none, none, none, none, none, none, none, none, none, none, none, none, none, none, none, none, none, none, none, none, none, none, none, none, none, none, none, none, none, none, none, none, none, none, none, none, none, none, none, none, none, none, none, none, none, none, none, none, none, none, none, none, none, none, none, none, none, none, none, none, none, none, none, none, none, none, none, none, none, none, none, none, none, none, none, none, none, none, none, none, none, none, none, none, none, none]) (by kernel_rfl) ?_
          exact J43 (Option.some.inj hp332) _ _ hS322
       ·skip
        have hp333 := ite_f hp308 h310
        refine sx_run 8 (todo' := [.inRegion (opsOf (cd8 [1, 1, 1, 0, 0])) [33, 34, 35, 36, 37, 38, 39, 40], .code (cd8 [1, 1, 1, 0, 1]), .code (cd8 [1, 1, 1, 1])]) (us := [(52, .bool false), (53, undef), (54, undef), (55, undef), (56, .bool false), (57, .bool false), (58, .bool false), (59, .string t11)]) (by kernel_rfl) ?_
        obtain ⟨t334, hr335, hp336⟩ := bind_some' hp333
        refine r_call1 (c := (cd8 [1, 1, 1, 0, 0])) (i := 33) (d := (some 60)) (g := 18) (args := #[.string t11, .string (⟨#[86]⟩ : ByteArray)]) (by kernel_rfl) (by kernel_rfl) (by kernel_rfl) (by kernel_rfl) (strings_Contains.ok t11 (⟨#[86]⟩ : ByteArray) hS36 hr335) ?_
        rintro _ w337 ⟨rfl, hS338⟩
        refine ⟨.bool t334, rfl, ?_⟩
        refine sx_split 1 (todo' := [.inRegion (opsOf (cd8 [1, 1, 1, 0, 0])) [35, 36, 37, 38, 39, 40], .code (cd8 [1, 1, 1, 0, 1]), .code (cd8 [1, 1, 1, 1])]) (us := []) (d := 61) (t := (!t334)) (by kernel_rfl) (fun h339 => ?_) (fun h340 => ?_)
        ·skip
         have hp341 := ite_t hp336 h339
         refine sx_run 2 (todo' := [.inRegion (opsOf (cd8 [1, 1, 1, 0, 0])) [37, 38, 39, 40], .code (cd8 [1, 1, 1, 0, 1]), .code (cd8 [1, 1, 1, 1])]) (us := [(62, .bool true), (63, .pointer (some ⟨b1, 4, none⟩))]) (by kernel_rfl) ?_
         refine r_load (c := (cd8 [1, 1, 1, 0, 0])) (i := 37) (d := (some 64)) (ty := 2) (t := 2) (x := (.tmp 63)) (p := ⟨b1, 4, none⟩) (v := .int .i64 a0.Imm) (by kernel_rfl) (by kernel_rfl) (by kernel_rfl) (loads_at 4 (hS338.blk 0 rfl) (by kernel_rfl) (by kernel_rfl)) ?_
         refine sx_split 1 (todo' := [.inRegion (opsOf (cd8 [1, 1, 1, 0, 0])) [39, 40], .code (cd8 [1, 1, 1, 0, 1]), .code (cd8 [1, 1, 1, 1])]) (us := []) (d := 65) (t := (a0.Imm != 0)) (by kernel_rfl) (fun h342 => ?_) (fun h343 => ?_)
         ·skip
          have hp344 := ite_t hp341 h342
          refine sx_run 9 (todo' := [.code (cd8 [1, 1, 1, 0, 1, 0, 1]), .code (cd8 [1, 1, 1, 1])]) (us := [(66, .bool true), (67, .bool true), (2, .string (⟨#[]⟩ : ByteArray)), (3, .int .i64 80)]) (by kernel_rfl) ?_
          have hS345 := hS338.drop
          refine runs_ret (fn := Tryd.f8) (v := .tuple #[.string (⟨#[]⟩ : ByteArray), .int .i64 80]) Tryd.func8 (by kernel_rfl) ?_
          have hr346 := (hq42 _ (Option.some.inj hp344))
          cases hr346
          exact hR _ _ ⟨rfl, hS345⟩
         ·skip
          have hp347 := ite_f hp341 h343
          refine sx_run 5 (todo' := [.code (cd8 [1, 1, 1, 1])]) (us := [(66, .bool false), (67, .bool false)]) (by kernel_rfl) ?_
          refine Runs.fill (m := [none, some (.pointer (some ⟨b1, 0, none⟩)), none, none, some (.string t10), some (.string t11), none, some (.bool t17), some (.bool t22), some (.bool t27), none, none, none, none, none, none, none, none, none, none, none, none, none, none, none, none, none, none, none, none, none, none, none, none, none, none, none, none, none, none, none, none, none, none, none, none, none, none, none, none, none, none, none, none, none, none, none, none, none, none, none, none, none, none, none, none, none, none, none, none, none, none, none, none, none, none, none, none, none, none, none, none, none, none, none, none, none, none, none, none, none, none, none, none, none, none, none, none, none, none, none, none, none, none, none, none, none, none, none, none, none, none, none, none, none, none, none, none, none, none, none, none, none, none, none]) (by kernel_rfl) ?_
          exact J43 (Option.some.inj hp347) _ _ hS338
        ·skip
         have hp348 := ite_f hp336 h340
         refine sx_run 9 (todo' := [.code (cd8 [1, 1, 1, 1])]) (us := [(62, .bool false), (63, undef), (64, undef), (65, undef), (66, .bool false), (67, .bool false)]) (by kernel_rfl) ?_
         refine Runs.fill (m := [none, some (.pointer (some ⟨b1, 0, none⟩)), none, none, some (.string t10), some (.string t11), none, some (.bool t17), some (.bool t22), some (.bool t27), none, none, none, none, none, none, none, none, none, none, none, none, none, none, none, none, none, none, none, none, none, none, none, none, none, none, none, none, none, none, none, none, none, none, none, none, none, none, none, none, none, none, none, none, none, none, none, none, none, none, none, none, none, none, none, none, none, none, none, none, none, none, none, none, none, none, none, none, none, none, none, none, none, none, none, none, none, none, none, none, none, none, none, none, none, none, none, none, none, none, none, none, none, none, none, none, none, none, none, none, none, none, none, none, none, none, none, none, none, none, none, none, none, none, none]) (by kernel_rfl) ?_
         exact J43 (Option.some.inj hp348) _ _ hS338
     ·skip
      have hp349 := ite_f hp299 h301
      refine sx_split 9 (todo' := [.inRegion (opsOf (cd8 [1, 1, 1, 0, 0])) [25, 26, 27, 28, 29, 30, 31, 32, 33, 34, 35, 36, 37, 38, 39, 40], .code (cd8 [1, 1, 1, 0, 1]), .code (cd8 [1, 1, 1, 1])]) (us := [(43, .bool false), (44, undef), (45, undef), (46, undef), (47, .bool false), (48, .bool false), (49, .bool false), (50, .bool t27)]) (d := 51) (t := (!t27)) (by kernel_rfl) (fun h350 => ?_) (fun h351 => ?_)
      ·skip
       have hp352 := ite_t hp349 h350
       refine sx_run 2 (todo' := [.inRegion (opsOf (cd8 [1, 1, 1, 0, 0])) [27, 28, 29, 30, 31, 32, 33, 34, 35, 36, 37, 38, 39, 40], .code (cd8 [1, 1, 1, 0, 1]), .code (cd8 [1, 1, 1, 1])]) (us := [(52, .bool true), (53, .pointer (some ⟨b1, 3, none⟩))]) (by kernel_rfl) ?_
       refine r_load (c := (cd8 [1, 1, 1, 0, 0])) (i := 27) (d := (some 54)) (ty := 9) (t := 9) (x := (.tmp 53)) (p := ⟨b1, 3, none⟩) (v := .string a0.Loc) (by kernel_rfl) (by kernel_rfl) (by kernel_rfl) (loads_at 3 (hS36.blk 0 rfl) (by kernel_rfl) (by kernel_rfl)) ?_
       refine sx_split 1 (todo' := [.inRegion (opsOf (cd8 [1, 1, 1, 0, 0])) [29, 30, 31, 32, 33, 34, 35, 36, 37, 38, 39, 40], .code (cd8 [1, 1, 1, 0, 1]), .code (cd8 [1, 1, 1, 1])]) (us := []) (d := 55) (t := (!seq a0.Loc (⟨#[]⟩ : ByteArray))) (by kernel_rfl) (fun h353 => ?_) (fun h354 => ?_)
       ·skip
        have hp355 := ite_t hp352 h353
        refine sx_run 19 (todo' := [.code (cd8 [1, 1, 1, 0, 1, 0, 1]), .code (cd8 [1, 1, 1, 1])]) (us := [(56, .bool true), (57, .bool true), (58, .bool true), (59, undef), (60, undef), (61, undef), (62, undef), (63, undef), (64, undef), (65, undef), (66, undef), (67, .bool true), (2, .string (⟨#[]⟩ : ByteArray)), (3, .int .i64 80)]) (by kernel_rfl) ?_
        have hS356 := hS36.drop
        refine runs_ret (fn := Tryd.f8) (v := .tuple #[.string (⟨#[]⟩ : ByteArray), .int .i64 80]) Tryd.func8 (by kernel_rfl) ?_
        have hr357 := (hq42 _ (Option.some.inj hp355))
        cases hr357
        exact hR _ _ ⟨rfl, hS356⟩
       ·skip
        have hp358 := ite_f hp352 h354
        refine sx_run 4 (todo' := [.inRegion (opsOf (cd8 [1, 1, 1, 0, 0])) [33, 34, 35, 36, 37, 38, 39, 40], .code (cd8 [1, 1, 1, 0, 1]), .code (cd8 [1, 1, 1, 1])]) (us := [(56, .bool false), (57, .bool false), (58, .bool false), (59, .string t11)]) (by kernel_rfl) ?_
        obtain ⟨t359, hr360, hp361⟩ := bind_some' hp358
        refine r_call1 (c := (cd8 [1, 1, 1, 0, 0])) (i := 33) (d := (some 60)) (g := 18) (args := #[.string t11, .string (⟨#[86]⟩ : ByteArray)]) (by kernel_rfl) (by kernel_rfl) (by kernel_rfl) (by kernel_rfl) (strings_Contains.ok t11 (⟨#[86]⟩ : ByteArray) hS36 hr360) ?_
        rintro _ w362 ⟨rfl, hS363⟩
        refine ⟨.bool t359, rfl, ?_⟩
        refine sx_split 1 (todo' := [.inRegion (opsOf (cd8 [1, 1, 1, 0, 0])) [35, 36, 37, 38, 39, 40], .code (cd8 [1, 1, 1, 0, 1]), .code (cd8 [1, 1, 1, 1])]) (us := []) (d := 61) (t := (!t359)) (by kernel_rfl) (fun h364 => ?_) (fun h365 => ?_)
        ·skip
         have hp366 := ite_t hp361 h364
         refine sx_run 2 (todo' := [.inRegion (opsOf (cd8 [1, 1, 1, 0, 0])) [37, 38, 39, 40], .code (cd8 [1, 1, 1, 0, 1]), .code (cd8 [1, 1, 1, 1])]) (us := [(62, .bool true), (63, .pointer (some ⟨b1, 4, none⟩))]) (by kernel_rfl) ?_
         refine r_load (c := (cd8 [1, 1, 1, 0, 0])) (i := 37) (d := (some 64)) (ty := 2) (t := 2) (x := (.tmp 63)) (p := ⟨b1, 4, none⟩) (v := .int .i64 a0.Imm) (by kernel_rfl) (by kernel_rfl) (by kernel_rfl) (loads_at 4 (hS363.blk 0 rfl) (by kernel_rfl) (by kernel_rfl)) ?_
         refine sx_split 1 (todo' := [.inRegion (opsOf (cd8 [1, 1, 1, 0, 0])) [39, 40], .code (cd8 [1, 1, 1, 0, 1]), .code (cd8 [1, 1, 1, 1])]) (us := []) (d := 65) (t := (a0.Imm != 0)) (by kernel_rfl) (fun h367 => ?_) (fun h368 => ?_)
         ·skip
          have hp369 := ite_t hp366 h367
          refine sx_run 9 (todo' := [.code (cd8 [1, 1, 1, 0, 1, 0, 1]), .code (cd8 [1, 1, 1, 1])]) (us := [(66, .bool true), (67, .bool true), (2, .string (⟨#[]⟩ : ByteArray)), (3, .int .i64 80)]) (by kernel_rfl) ?_
          have hS370 := hS363.drop
          refine runs_ret (fn := Tryd.f8) (v := .tuple #[.string (⟨#[]⟩ : ByteArray), .int .i64 80]) Tryd.func8 (by kernel_rfl) ?_
          have hr371 := (hq42 _ (Option.some.inj hp369))
          cases hr371
          exact hR _ _ ⟨rfl, hS370⟩
         ·skip
          have hp372 := ite_f hp366 h368
          refine sx_run 5 (todo' := [.code (cd8 [1, 1, 1, 1])]) (us := [(66, .bool false), (67, .bool false)]) (by kernel_rfl) ?_
          refine Runs.fill (m := [none, some (.pointer (some ⟨b1, 0, none⟩)), none, none, some (.string t10), some (.string t11), none, some (.bool t17), some (.bool t22), some (.bool t27), none, none, none, none, none, none, none, none, none, none, none, none, none, none, none, none, none, none, none, none, none, none, none, none, none, none, none, none, none, none, none, none, none, none, none, none, none, none, none, none, none, none, none, none, none, none, none, none, none, none, none, none, none, none, none, none, none, none, none, none, none, none, none, none, none, none, none, none, none, none, none, none, none, none, none, none, none, none, none, none, none, none, none, none, none, none, none, none, none, none, none, none, none, none, none, none, none, none, none, none, none, none, none, none, none, none, none, none, none, none, none, none, none, none, none]) (by kernel_rfl) ?_
          exact J43 (Option.some.inj hp372) _ _ hS363
        ·skip
         have hp373 := ite_f hp361 h365
         refine sx_run 9 (todo' := [.code (cd8 [1, 1, 1, 1])]) (us := [(62, .bool false), (63, undef), (64, undef), (65, undef), (66, .bool false), (67, .bool false)]) (by kernel_rfl) ?_
         refine Runs.fill (m := [none, some (.pointer (some ⟨b1, 0, none⟩)), none, none, some (.string t10), some (.string t11), none, some (.bool t17), some (.bool t22), some (.bool t27), none, none, none, none, none, none, none, none, none, none, none, none, none, none, none, none, none, none, none, none, none, none, none, none, none, none, none, none, none, none, none, none, none, none, none, none, none, none, none, none, none, none, none, none, none, none, none, none, none, none, none, none, none, none, none, none, none, none, none, none, none, none, none, none, none, none, none, none, none, none, none, none, none, none, none, none, none, none, none, none, none, none, none, none, none, none, none, none, none, none, none, none, none, none, none, none, none, none, none, none, none, none, none, none, none, none, none, none, none, none, none, none, none, none, none]) (by kernel_rfl) ?_
         exact J43 (Option.some.inj hp373) _ _ hS363
      ·skip
       have hp374 := ite_f hp349 h351
       refine sx_run 8 (todo' := [.inRegion (opsOf (cd8 [1, 1, 1, 0, 0])) [33, 34, 35, 36, 37, 38, 39, 40], .code (cd8 [1, 1, 1, 0, 1]), .code (cd8 [1, 1, 1, 1])]) (us := [(52, .bool false), (53, undef), (54, undef), (55, undef), (56, .bool false), (57, .bool false), (58, .bool false), (59, .string t11)]) (by kernel_rfl) ?_
       obtain ⟨t375, hr376, hp377⟩ := bind_some' hp374
       refine r_call1 (c := (cd8 [1, 1, 1, 0, 0])) (i := 33) (d := (some 60)) (g := 18) (args := #[.string t11, .string (⟨#[86]⟩ : ByteArray)]) (by kernel_rfl) (by kernel_rfl) (by kernel_rfl) (by kernel_rfl) (strings_Contains.ok t11 (⟨#[86]⟩ : ByteArray) hS36 hr376) ?_
       rintro _ w378 ⟨rfl, hS379⟩
       refine ⟨.bool t375, rfl, ?_⟩
       refine sx_split 1 (todo' := [.inRegion (opsOf (cd8 [1, 1, 1, 0, 0])) [35, 36, 37, 38, 39, 40], .code (cd8 [1, 1, 1, 0, 1]), .code (cd8 [1, 1, 1, 1])]) (us := []) (d := 61) (t := (!t375)) (by kernel_rfl) (fun h380 => ?_) (fun h381 => ?_)
       ·skip
        have hp382 := ite_t hp377 h380
        refine sx_run 2 (todo' := [.inRegion (opsOf (cd8 [1, 1, 1, 0, 0])) [37, 38, 39, 40], .code (cd8 [1, 1, 1, 0, 1]), .code (cd8 [1, 1, 1, 1])]) (us := [(62, .bool true), (63, .pointer (some ⟨b1, 4, none⟩))]) (by kernel_rfl) ?_
        refine r_load (c := (cd8 [1, 1, 1, 0, 0])) (i := 37) (d := (some 64)) (ty := 2) (t := 2) (x := (.tmp 63)) (p := ⟨b1, 4, none⟩) (v := .int .i64 a0.Imm) (by kernel_rfl) (by kernel_rfl) (by kernel_rfl) (loads_at 4 (hS379.blk 0 rfl) (by kernel_rfl) (by kernel_rfl)) ?_
        refine sx_split 1 (todo' := [.inRegion (opsOf (cd8 [1, 1, 1, 0, 0])) [39, 40], .code (cd8 [1, 1, 1, 0, 1]), .code (cd8 [1, 1, 1, 1])]) (us := []) (d := 65) (t := (a0.Imm != 0)) (by kernel_rfl) (fun h383 => ?_) (fun h384 => ?_)
        ·skip
         have hp385 := ite_t hp382 h383
         refine sx_run 9 (todo' := [.code (cd8 [1, 1, 1, 0, 1, 0, 1]), .code (cd8 [1, 1, 1, 1])]) (us := [(66, .bool true), (67, .bool true), (2, .string (⟨#[]⟩ : ByteArray)), (3, .int .i64 80)]) (by kernel_rfl) ?_
         have hS386 := hS379.drop
         refine runs_ret (fn := Tryd.f8) (v := .tuple #[.string (⟨#[]⟩ : ByteArray), .int .i64 80]) Tryd.func8 (by kernel_rfl) ?_
         have hr387 := (hq42 _ (Option.some.inj hp385))
         cases hr387
         exact hR _ _ ⟨rfl, hS386⟩
        ·skip
         have hp388 := ite_f hp382 h384
         refine sx_run 5 (todo' := [.code (cd8 [1, 1, 1, 1])]) (us := [(66, .bool false), (67, .bool false)]) (by kernel_rfl) ?_
         refine Runs.fill (m := [none, some (.pointer (some ⟨b1, 0, none⟩)), none, none, some (.string t10), some (.string t11), none, some (.bool t17), some (.bool t22), some (.bool t27), none, none, none, none, none, none, none, none, none, none, none, none, none, none, none, none, none, none, none, none, none, none, none, none, none, none, none, none, none, none, none, none, none, none, none, none, none, none, none, none, none, none, none, none, none, none, none, none, none, none, none, none, none, none, none, none, none, none, none, none, none, none, none, none, none, none, none, none, none, none, none, none, none, none, none, none, none, none, none, none, none, none, none, none, none, none, none, none, none, none, none, none, none, none, none, none, none, none, none, none, none, none, none, none, none, none, none, none, none, none, none, none, none, none, none]) (by kernel_rfl) ?_
         exact J43 (Option.some.inj hp388) _ _ hS379
       ·skip
        have hp389 := ite_f hp377 h381
        refine sx_run 9 (todo' := [.code (cd8 [1, 1, 1, 1])]) (us := [(62, .bool false), (63, undef), (64, undef), (65, undef), (66, .bool false), (67, .bool false)]) (by kernel_rfl) ?_
        refine Runs.fill (m := [none, some (.pointer (some ⟨b1, 0, none⟩)), none, none, some (.string t10), some (.string t11), none, some (.bool t17), some (.bool t22), some (.bool t27), none, none, none, none, none, none, none, none, none, none, none, none, none, none, none, none, none, none, none, none, none, none, none, none, none, none, none, none, none, none, none, none, none, none, none, none, none, none, none, none, none, none, none, none, none, none, none, none, none, none, none, none, none, none, none, none, none, none, none, none, none, none, none, none, none, none, none, none, none, none, none, none, none, none, none, none, none, none, none, none, none, none, none, none, none, none, none, none, none, none, none, none, none, none, none, none, none, none, none, none, none, none, none, none, none, none, none, none, none, none, none, none, none, none, none]) (by kernel_rfl) ?_
        exact J43 (Option.some.inj hp389) _ _ hS379
   ·skip
    have hp390 := ite_f hp290 h292
    refine sx_split 9 (todo' := [.inRegion (opsOf (cd8 [1, 1, 1, 0, 0])) [16, 17, 18, 19, 20, 21, 22, 23, 24, 25, 26, 27, 28, 29, 30, 31, 32, 33, 34, 35, 36, 37, 38, 39, 40], .code (cd8 [1, 1, 1, 0, 1]), .code (cd8 [1, 1, 1, 1])]) (us := [(34, .bool false), (35, undef), (36, undef), (37, undef), (38, .bool false), (39, .bool false), (40, .bool false), (41, .bool t22)]) (d := 42) (t := (!t22)) (by kernel_rfl) (fun h391 => ?_) (fun h392 => ?_)
    ·skip
     have hp393 := ite_t hp390 h391
     refine sx_run 2 (todo' := [.inRegion (opsOf (cd8 [1, 1, 1, 0, 0])) [18, 19, 20, 21, 22, 23, 24, 25, 26, 27, 28, 29, 30, 31, 32, 33, 34, 35, 36, 37, 38, 39, 40], .code (cd8 [1, 1, 1, 0, 1]), .code (cd8 [1, 1, 1, 1])]) (us := [(43, .bool true), (44, .pointer (some ⟨b1, 2, none⟩))]) (by kernel_rfl) ?_
     refine r_load (c := (cd8 [1, 1, 1, 0, 0])) (i := 18) (d := (some 45)) (ty := 9) (t := 9) (x := (.tmp 44)) (p := ⟨b1, 2, none⟩) (v := .string a0.Src) (by kernel_rfl) (by kernel_rfl) (by kernel_rfl) (loads_at 2 (hS36.blk 0 rfl) (by kernel_rfl) (by kernel_rfl)) ?_
     refine sx_split 1 (todo' := [.inRegion (opsOf (cd8 [1, 1, 1, 0, 0])) [20, 21, 22, 23, 24, 25, 26, 27, 28, 29, 30, 31, 32, 33, 34, 35, 36, 37, 38, 39, 40], .code (cd8 [1, 1, 1, 0, 1]), .code (cd8 [1, 1, 1, 1])]) (us := []) (d := 46) (t := (!seq a0.Src (⟨#[]⟩ : ByteArray))) (by kernel_rfl) (fun h394 => ?_) (fun h395 => ?_)
     ·skip
      have hp396 := ite_t hp393 h394
      refine sx_run 28 (todo' := [.code (cd8 [1, 1, 1, 0, 1, 0, 1]), .code (cd8 [1, 1, 1, 1])]) (us := [(47, .bool true), (48, .bool true), (49, .bool true), (50, undef), (51, undef), (52, undef), (53, undef), (54, undef), (55, undef), (56, undef), (57, .bool true), (58, .bool true), (59, undef), (60, undef), (61, undef), (62, undef), (63, undef), (64, undef), (65, undef), (66, undef), (67, .bool true), (2, .string (⟨#[]⟩ : ByteArray)), (3, .int .i64 80)]) (by kernel_rfl) ?_
      have hS397 := hS36.drop
      refine runs_ret (fn := Tryd.f8) (v := .tuple #[.string (⟨#[]⟩ : ByteArray), .int .i64 80]) Tryd.func8 (by kernel_rfl) ?_
      have hr398 := (hq42 _ (Option.some.inj hp396))
      cases hr398
      exact hR _ _ ⟨rfl, hS397⟩
     ·skip
      have hp399 := ite_f hp393 h395
      refine sx_split 5 (todo' := [.inRegion (opsOf (cd8 [1, 1, 1, 0, 0])) [25, 26, 27, 28, 29, 30, 31, 32, 33, 34, 35, 36, 37, 38, 39, 40], .code (cd8 [1, 1, 1, 0, 1]), .code (cd8 [1, 1, 1, 1])]) (us := [(47, .bool false), (48, .bool false), (49, .bool false), (50, .bool t27)]) (d := 51) (t := (!t27)) (by kernel_rfl) (fun h400 => ?_) (fun h401 => ?_)
      ·skip
       have hp402 := ite_t hp399 h400
       refine sx_run 2 (todo' := [.inRegion (opsOf (cd8 [1, 1, 1, 0, 0])) [27, 28, 29, 30, 31, 32, 33, 34, 35, 36, 37, 38, 39, 40], .code (cd8 [1, 1, 1, 0, 1]), .code (cd8 [1, 1, 1, 1])]) (us := [(52, .bool true), (53, .pointer (some ⟨b1, 3, none⟩))]) (by kernel_rfl) ?_
       refine r_load (c := (cd8 [1, 1, 1, 0, 0])) (i := 27) (d := (some 54)) (ty := 9) (t := 9) (x := (.tmp 53)) (p := ⟨b1, 3, none⟩) (v := .string a0.Loc) (by kernel_rfl) (by kernel_rfl) (by kernel_rfl) (loads_at 3 (hS36.blk 0 rfl) (by kernel_rfl) (by kernel_rfl)) ?_
       refine sx_split 1 (todo' := [.inRegion (opsOf (cd8 [1, 1, 1, 0, 0])) [29, 30, 31, 32, 33, 34, 35, 36, 37, 38, 39, 40], .code (cd8 [1, 1, 1, 0, 1]), .code (cd8 [1, 1, 1, 1])]) (us := []) (d := 55) (t := (!seq a0.Loc (⟨#[]⟩ : ByteArray))) (by kernel_rfl) (fun h403 => ?_) (fun h404 => ?_)
       ·skip
        have hp405 := ite_t hp402 h403
        refine sx_run 19 (todo' := [.code (cd8 [1, 1, 1, 0, 1, 0, 1]), .code (cd8 [1, 1, 1, 1])]) (us := [(56, .bool true), (57, .bool true), (58, .bool true), (59, undef), (60, undef), (61, undef), (62, undef), (63, undef), (64, undef), (65, undef), (66, undef), (67, .bool true), (2, .string (⟨#[]⟩ : ByteArray)), (3, .int .i64 80)]) (by kernel_rfl) ?_
        have hS406 := hS36.drop
        refine runs_ret (fn := Tryd.f8) (v := .tuple #[.string (⟨#[]⟩ : ByteArray), .int .i64 80]) Tryd.func8 (by kernel_rfl) ?_
        have hr407 := (hq42 _ (Option.some.inj hp405))
        cases hr407
        exact hR _ _ ⟨rfl, hS406⟩
       ·skip
        have hp408 := ite_f hp402 h404
        refine sx_run 4 (todo' := [.inRegion (opsOf (cd8 [1, 1, 1, 0, 0])) [33, 34, 35, 36, 37, 38, 39, 40], .code (cd8 [1, 1, 1, 0, 1]), .code (cd8 [1, 1, 1, 1])]) (us := [(56, .bool false), (57, .bool false), (58, .bool false), (59, .string t11)]) (by kernel_rfl) ?_
        obtain ⟨t409, hr410, hp411⟩ := bind_some' hp408
        refine r_call1 (c := (cd8 [1, 1, 1, 0, 0])) (i := 33) (d := (some 60)) (g := 18) (args := #[.string t11, .string (⟨#[86]⟩ : ByteArray)]) (by kernel_rfl) (by kernel_rfl) (by kernel_rfl) (by kernel_rfl) (strings_Contains.ok t11 (⟨#[86]⟩ : ByteArray) hS36 hr410) ?_
        rintro _ w412 ⟨rfl, hS413⟩
        refine ⟨.bool t409, rfl, ?_⟩
        refine sx_split 1 (todo' := [.inRegion (opsOf (cd8 [1, 1, 1, 0, 0])) [35, 36, 37, 38, 39, 40], .code (cd8 [1, 1, 1, 0, 1]), .code (cd8 [1, 1, 1, 1])]) (us := []) (d := 61) (t := (!t409)) (by kernel_rfl) (fun h414 => ?_) (fun h415 => ?_)
        ·skip
         have hp416 := ite_t hp411 h414
         refine sx_run 2 (todo' := [.inRegion (opsOf (cd8 [1, 1, 1, 0, 0])) [37, 38, 39, 40], .code (cd8 [1, 1, 1, 0, 1]), .code (cd8 [1, 1, 1, 1])]) (us := [(62, .bool true), (63, .pointer (some ⟨b1, 4, none⟩))]) (by kernel_rfl) ?_
         refine r_load (c := (cd8 [1, 1, 1, 0, 0])) (i := 37) (d := (some 64)) (ty := 2) (t := 2) (x := (.tmp 63)) (p := ⟨b1, 4, none⟩) (v := .int .i64 a0.Imm) (by kernel_rfl) (by kernel_rfl) (by kernel_rfl) (loads_at 4 (hS413.blk 0 rfl) (by kernel_rfl) (by kernel_rfl)) ?_
         refine sx_split 1 (todo' := [.inRegion (opsOf (cd8 [1, 1, 1, 0, 0])) [39, 40], .code (cd8 [1, 1, 1, 0, 1]), .code (cd8 [1, 1, 1, 1])]) (us := []) (d := 65) (t := (a0.Imm != 0)) (by kernel_rfl) (fun h417 => ?_) (fun h418 => ?_)
         ·skip
          have hp419 := ite_t hp416 h417
          refine sx_run 9 (todo' := [.code (cd8 [1, 1, 1, 0, 1, 0, 1]), .code (cd8 [1, 1, 1, 1])]) (us := [(66, .bool true), (67, .bool true), (2, .string (⟨#[]⟩ : ByteArray)), (3, .int .i64 80)]) (by kernel_rfl) ?_
          have hS420 := hS413.drop
          refine runs_ret (fn := Tryd.f8) (v := .tuple #[.string (⟨#[]⟩ : ByteArray), .int .i64 80]) Tryd.func8 (by kernel_rfl) ?_
          have hr421 := (hq42 _ (Option.some.inj hp419))
          cases hr421
          exact hR _ _ ⟨rfl, hS420⟩
         ·skip
          have hp422 := ite_f hp416 h418
          refine sx_run 5 (todo' := [.code (cd8 [1, 1, 1, 1])]) (us := [(66, .bool false), (67, .bool false)]) (by kernel_rfl) ?_
          refine Runs.fill (m := [none, some (.pointer (some ⟨b1, 0, none⟩)), none, none, some (.string t10), some (.string t11), none, some (.bool t17), some (.bool t22), some (.bool t27), none, none, none, none, none, none, none, none, none, none, none, none, none, none, none, none, none, none, none, none, none, none, none, none, none, none, none, none, none, none, none, none, none, none, none, none, none, none, none, none, none, none, none, none, none, none, none, none, none, none, none, none, none, none, none, none, none, none, none, none, none, none, none, none, none, none, none, none, none, none, none, none, none, none, none, none, none, none, none, none, none, none, none, none, none, none, none, none, none, none, none, none, none, none, none, none, none, none, none, none, none, none, none, none, none, none, none, none, none, none, none, none, none, none, none]) (by kernel_rfl) ?_
          exact J43 (Option.some.inj hp422) _ _ hS413
        ·skip
         have hp423 := ite_f hp411 h415
         refine sx_run 9 (todo' := [.code (cd8 [1, 1, 1, 1])]) (us := [(62, .bool false), (63, undef), (64, undef), (65, undef), (66, .bool false), (67, .bool false)]) (by kernel_rfl) ?_
         refine Runs.fill (m := [none, some (.pointer (some ⟨b1, 0, none⟩)), none, none, some (.string t10), some (.string t11), none, some (.bool t17), some (.bool t22), some (.bool t27), none, none, none, none, none, none, none, none, none, none, none, none, none, none, none, none, none, none, none, none, none, none, none, none, none, none, none, none, none, none, none, none, none, none, none, none, none, none, none, none, none, none, none, none, none, none, none, none, none, none, none, none, none, none, none, none, none, none, none, none, none, none, none, none, none, none, none, none, none, none, none, none, none, none, none, none, none, none, none, none, none, none, none, none, none, none, none, none, none, none, none, none, none, none, none, none, none, none, none, none, none, none, none, none, none, none, none, none, none, none, none, none, none, none, none]) (by kernel_rfl) ?_
         exact J43 (Option.some.inj hp423) _ _ hS413
      ·skip
       have hp424 := ite_f hp399 h401
       refine sx_run 8 (todo' := [.inRegion (opsOf (cd8 [1, 1, 1, 0, 0])) [33, 34, 35, 36, 37, 38, 39, 40], .code (cd8 [1, 1, 1, 0, 1]), .code (cd8 [1, 1, 1, 1])]) (us := [(52, .bool false), (53, undef), (54, undef), (55, undef), (56, .bool false), (57, .bool false), (58, .bool false), (59, .string t11)]) (by kernel_rfl) ?_
       obtain ⟨t425, hr426, hp427⟩ := bind_some' hp424
       refine r_call1 (c := (cd8 [1, 1, 1, 0, 0])) (i := 33) (d := (some 60)) (g := 18) (args := #[.string t11, .string (⟨#[86]⟩ : ByteArray)]) (by kernel_rfl) (by kernel_rfl) (by kernel_rfl) (by kernel_rfl) (strings_Contains.ok t11 (⟨#[86]⟩ : ByteArray) hS36 hr426) ?_
       rintro _ w428 ⟨rfl, hS429⟩
       refine ⟨.bool t425, rfl, ?_⟩
       refine sx_split 1 (todo' := [.inRegion (opsOf (cd8 [1, 1, 1, 0, 0])) [35, 36, 37, 38, 39, 40], .code (cd8 [1, 1, 1, 0, 1]), .code (cd8 [1, 1, 1, 1])]) (us := []) (d := 61) (t := (!t425)) (by kernel_rfl) (fun h430 => ?_) (fun h431 => ?_)
       ·skip
        have hp432 := ite_t hp427 h430
        refine sx_run 2 (todo' := [.inRegion (opsOf (cd8 [1, 1, 1, 0, 0])) [37, 38, 39, 40], .code (cd8 [1, 1, 1, 0, 1]), .code (cd8 [1, 1, 1, 1])]) (us := [(62, .bool true), (63, .pointer (some ⟨b1, 4, none⟩))]) (by kernel_rfl) ?_
        refine r_load (c := (cd8 [1, 1, 1, 0, 0])) (i := 37) (d := (some 64)) (ty := 2) (t := 2) (x := (.tmp 63)) (p := ⟨b1, 4, none⟩) (v := .int .i64 a0.Imm) (by kernel_rfl) (by kernel_rfl) (by kernel_rfl) (loads_at 4 (hS429.blk 0 rfl) (by kernel_rfl) (by kernel_rfl)) ?_
        refine sx_split 1 (todo' := [.inRegion (opsOf (cd8 [1, 1, 1, 0, 0])) [39, 40], .code (cd8 [1, 1, 1, 0, 1]), .code (cd8 [1, 1, 1, 1])]) (us := []) (d := 65) (t := (a0.Imm != 0)) (by kernel_rfl) (fun h433 => ?_) (fun h434 => ?_)
        ·skip
         have hp435 := ite_t hp432 h433
         refine sx_run 9 (todo' := [.code (cd8 [1, 1, 1, 0, 1, 0, 1]), .code (cd8 [1, 1, 1, 1])]) (us := [(66, .bool true), (67, .bool true), (2, .string (⟨#[]⟩ : ByteArray)), (3, .int .i64 80)]) (by kernel_rfl) ?_
         have hS436 := hS429.drop
         refine runs_ret (fn := Tryd.f8) (v := .tuple #[.string (⟨#[]⟩ : ByteArray), .int .i64 80]) Tryd.func8 (by kernel_rfl) ?_
         have hr437 := (hq42 _ (Option.some.inj hp435))
         cases hr437
         exact hR _ _ ⟨rfl, hS436⟩
        ·skip
         have hp438 := ite_f hp432 h434
         refine sx_run 5 (todo' := [.code (cd8 [1, 1, 1, 1])]) (us := [(66, .bool false), (67, .bool false)]) (by kernel_rfl) ?_
         refine Runs.fill (m := [none, some (.pointer (some ⟨b1, 0, none⟩)), none, none, some (.string t10), some (.string t11), none, some (.bool t17), some (.bool t22), some (.bool t27), none, none, none, none, none, none, none, none, none, none, none, none, none, none, none, none, none, none, none, none, none, none, none, none, none, none, none, none, none, none, none, none, none, none, none, none, none, none, none, none, none, none, none, none, none, none, none, none, none, none, none, none, none, none, none, none, none, none, none, none, none, none, none, none, none, none, none, none, none, none, none, none, none, none, none, none, none, none, none, none, none, none, none, none, none, none, none, none, none, none, none, none, none, none, none, none, none, none, none, none, none, none, none, none, none, none, none, none, none, none, none, none, none, none, none]) (by kernel_rfl) ?_
         exact J43 (Option.some.inj hp438) _ _ hS429
       ·skip
        have hp439 := ite_f hp427 h431
        refine sx_run 9 (todo' := [.code (cd8 [1, 1, 1, 1])]) (us := [(62, .bool false), (63, undef), (64, undef), (65, undef), (66, .bool false), (67, .bool false)]) (by kernel_rfl) ?_
        refine Runs.fill (m := [none, some (.pointer (some ⟨b1, 0, none⟩)), none, none, some (.string t10), some (.string t11), none, some (.bool t17), some (.bool t22), some (.bool t27), none, none, none, none, none, none, none, none, none, none, none, none, none, none, none, none, none, none, none, none, none, none, none, none, none, none, none, none, none, none, none, none, none, none, none, none, none, none, none, none, none, none, none, none, none, none, none, none, none, none, none, none, none, none, none, none, none, none, none, none, none, none, none, none, none, none, none, none, none, none, none, none, none, none, none, none, none, none, none, none, none, none, none, none, none, none, none, none, none, none, none, none, none, none, none, none, none, none, none, none, none, none, none, none, none, none, none, none, none, none, none, none, none, none, none]) (by kernel_rfl) ?_
        exact J43 (Option.some.inj hp439) _ _ hS429
    ·skip
     have hp440 := ite_f hp390 h392
     refine sx_split 9 (todo' := [.inRegion (opsOf (cd8 [1, 1, 1, 0, 0])) [25, 26, 27, 28, 29, 30, 31, 32, 33, 34, 35, 36, 37, 38, 39, 40], .code (cd8 [1, 1, 1, 0, 1]), .code (cd8 [1, 1, 1, 1])]) (us := [(43, .bool false), (44, undef), (45, undef), (46, undef), (47, .bool false), (48, .bool false), (49, .bool false), (50, .bool t27)]) (d := 51) (t := (!t27)) (by kernel_rfl) (fun h441 => ?_) (fun h442 => ?_)
     ·skip
      have hp443 := ite_t hp440 h441
      refine sx_run 2 (todo' := [.inRegion (opsOf (cd8 [1, 1, 1, 0, 0])) [27, 28, 29, 30, 31, 32, 33, 34, 35, 36, 37, 38, 39, 40], .code (cd8 [1, 1, 1, 0, 1]), .code (cd8 [1, 1, 1, 1])]) (us := [(52, .bool true), (53, .pointer (some ⟨b1, 3, none⟩))]) (by kernel_rfl) ?_
      refine r_load (c := (cd8 [1, 1, 1, 0, 0])) (i := 27) (d := (some 54)) (ty := 9) (t := 9) (x := (.tmp 53)) (p := ⟨b1, 3, none⟩) (v := .string a0.Loc) (by kernel_rfl) (by kernel_rfl) (by kernel_rfl) (loads_at 3 (hS36.blk 0 rfl) (by kernel_rfl) (by kernel_rfl)) ?_
      refine sx_split 1 (todo' := [.inRegion (opsOf (cd8 [1, 1, 1, 0, 0])) [29, 30, 31, 32, 33, 34, 35, 36, 37, 38, 39, 40], .code (cd8 [1, 1, 1, 0, 1]), .code (cd8 [1, 1, 1, 1])]) (us := []) (d := 55) (t := (!seq a0.Loc (⟨#[]⟩ : ByteArray))) (by kernel_rfl) (fun h444 => ?_) (fun h445 => ?_)
      ·skip
       have hp446 := ite_t hp443 h444
       refine sx_run 19 (todo' := [.code (cd8 [1, 1, 1, 0, 1, 0, 1]), .code (cd8 [1, 1, 1, 1])]) (us := [(56, .bool true), (57, .bool true), (58, .bool true), (59, undef), (60, undef), (61, undef), (62, undef), (63, undef), (64, undef), (65, undef), (66, undef), (67, .bool true), (2, .string (⟨#[]⟩ : ByteArray)), (3, .int .i64 80)]) (by kernel_rfl) ?_
       have hS447 := hS36.drop
       refine runs_ret (fn := Tryd.f8) (v := .tuple #[.string (⟨#[]⟩ : ByteArray), .int .i64 80]) Tryd.func8 (by kernel_rfl) ?_
       have hr448 := (hq42 _ (Option.some.inj hp446))
       cases hr448
       exact hR _ _ ⟨rfl, hS447⟩
      ·skip
       have hp449 := ite_f hp443 h445
       refine sx_run 4 (todo' := [.inRegion (opsOf (cd8 [1, 1, 1, 0, 0])) [33, 34, 35, 36, 37, 38, 39, 40], .code (cd8 [1, 1, 1, 0, 1]), .code (cd8 [1, 1, 1, 1])]) (us := [(56, .bool false), (57, .bool false), (58, .bool false), (59, .string t11)]) (by kernel_rfl) ?_
       obtain ⟨t450, hr451, hp452⟩ := bind_some' hp449
       refine r_call1 (c := (cd8 [1, 1, 1, 0, 0])) (i := 33) (d := (some 60)) (g := 18) (args := #[.string t11, .string (⟨#[86]⟩ : ByteArray)]) (by kernel_rfl) (by kernel_rfl) (by kernel_rfl) (by kernel_rfl) (strings_Contains.ok t11 (⟨#[86]⟩ : ByteArray) hS36 hr451) ?_
       rintro _ w453 ⟨rfl, hS454⟩
       refine ⟨.bool t450, rfl, ?_⟩
       refine sx_split 1 (todo' := [.inRegion (opsOf (cd8 [1, 1, 1, 0, 0])) [35, 36, 37, 38, 39, 40], .code (cd8 [1, 1, 1, 0, 1]), .code (cd8 [1, 1, 1, 1])]) (us := []) (d := 61) (t := (!t450)) (by kernel_rfl) (fun h455 => ?_) (fun h456 => ?_)
       ·skip
        have hp457 := ite_t hp452 h455
        refine sx_run 2 (todo' := [.inRegion (opsOf (cd8 [1, 1, 1, 0, 0])) [37, 38, 39, 40], .code (cd8 [1, 1, 1, 0, 1]), .code (cd8 [1, 1, 1, 1])]) (us := [(62, .bool true), (63, .pointer (some ⟨b1, 4, none⟩))]) (by kernel_rfl) ?_
        refine r_load (c := (cd8 [1, 1, 1, 0, 0])) (i := 37) (d := (some 64)) (ty := 2) (t := 2) (x := (.tmp 63)) (p := ⟨b1, 4, none⟩) (v := .int .i64 a0.Imm) (by kernel_rfl) (by kernel_rfl) (by kernel_rfl) (loads_at 4 (hS454.blk 0 rfl) (by kernel_rfl) (by kernel_rfl)) ?_
        refine sx_split 1 (todo' := [.inRegion (opsOf (cd8 [1, 1, 1, 0, 0])) [39, 40], .code (cd8 [1, 1, 1, 0, 1]), .code (cd8 [1, 1, 1, 1])]) (us := []) (d := 65) (t := (a0.Imm != 0)) (by kernel_rfl) (fun h458 => ?_) (fun h459 => ?_)
        ·skip
         have hp460 := ite_t hp457 h458
         refine sx_run 9 (todo' := [.code (cd8 [1, 1, 1, 0, 1, 0, 1]), .code (cd8 [1, 1, 1, 1])]) (us := [(66, .bool true), (67, .bool true), (2, .string (⟨#[]⟩ : ByteArray)), (3, .int .i64 80)]) (by kernel_rfl) ?_
         have hS461 := hS454.drop
         refine runs_ret (fn := Tryd.f8) (v := .tuple #[.string (⟨#[]⟩ : ByteArray), .int .i64 80]) Tryd.func8 (by kernel_rfl) ?_
         have hr462 := (hq42 _ (Option.some.inj hp460))
         cases hr462
         exact hR _ _ ⟨rfl, hS461⟩
        ·skip
         have hp463 := ite_f hp457 h459
         refine sx_run 5 (todo' := [.code (cd8 [1, 1, 1, 1])]) (us := [(66, .bool false), (67, .bool false)]) (by kernel_rfl) ?_
         refine Runs.fill (m := [none, some (.pointer (some ⟨b1, 0, none⟩)), none, none, some (.string t10), some (.string t11), none, some (.bool t17), some (.bool t22), some (.bool t27), none, none, none, none, none, none, none, none, none, none, none, none, none, none, none, none, none, none, none, none, none, none, none, none, none, none, none, none, none, none, none, none, none, none, none, none, none, none, none, none, none, none, none, none, none, none, none, none, none, none, none, none, none, none, none, none, none, none, none, none, none, none, none, none, none, none, none, none, none, none, none, none, none, none, none, none, none, none, none, none, none, none, none, none, none, none, none, none, none, none, none, none, none, none, none, none, none, none, none, none, none, none, none, none, none, none, none, none, none, none, none, none, none, none, none]) (by kernel_rfl) ?_
         exact J43 (Option.some.inj hp463) _ _ hS454
       ·skip
        have hp464 := ite_f hp452 h456
        refine sx_run 9 (todo' := [.code (cd8 [1, 1, 1, 1])]) (us := [(62, .bool false), (63, undef), (64, undef), (65, undef), (66, .bool false), (67, .bool false)]) (by kernel_rfl) ?_
        refine Runs.fill (m := [none, some (.pointer (some ⟨b1, 0, none⟩)), none, none, some (.string t10), some (.string t11), none, some (.bool t17), some (.bool t22), some (.bool t27), none, none, none, none, none, none, none, none, none, none, none, none, none, none, none, none, none, none, none, none, none, none, none, none, none, none, none, none, none, none, none, none, none, none, none, none, none, none, none, none, none, none, none, none, none, none, none, none, none, none, none, none, none, none, none, none, none, none, none, none, none, none, none, none, none, none, none, none, none, none, none, none, none, none, none, none, none, none, none, none, none, none, none, none, none, none, none, none, none, none, none, none, none, none, none, none, none, none, none, none, none, none, none, none, none, none, none, none, none, none, none, none, none, none, none]) (by kernel_rfl) ?_
        exact J43 (Option.some.inj hp464) _ _ hS454
     ·skip
      have hp465 := ite_f hp440 h442
      refine sx_run 8 (todo' := [.inRegion (opsOf (cd8 [1, 1, 1, 0, 0])) [33, 34, 35, 36, 37, 38, 39, 40], .code (cd8 [1, 1, 1, 0, 1]), .code (cd8 [1, 1, 1, 1])]) (us := [(52, .bool false), (53, undef), (54, undef), (55, undef), (56, .bool false), (57, .bool false), (58, .bool false), (59, .string t11)]) (by kernel_rfl) ?_
      obtain ⟨t466, hr467, hp468⟩ := bind_some' hp465
      refine r_call1 (c := (cd8 [1, 1, 1, 0, 0])) (i := 33) (d := (some 60)) (g := 18) (args := #[.string t11, .string (⟨#[86]⟩ : ByteArray)]) (by kernel_rfl) (by kernel_rfl) (by kernel_rfl) (by kernel_rfl) (strings_Contains.ok t11 (⟨#[86]⟩ : ByteArray) hS36 hr467) ?_
      rintro _ w469 ⟨rfl, hS470⟩
      refine ⟨.bool t466, rfl, ?_⟩
      refine sx_split 1 (todo' := [.inRegion (opsOf (cd8 [1, 1, 1, 0, 0])) [35, 36, 37, 38, 39, 40], .code (cd8 [1, 1, 1, 0, 1]), .code (cd8 [1, 1, 1, 1])]) (us := []) (d := 61) (t := (!t466)) (by kernel_rfl) (fun h471 => ?_) (fun h472 => ?_)
      ·skip
       have hp473 := ite_t hp468 h471
       refine sx_run 2 (todo' := [.inRegion (opsOf (cd8 [1, 1, 1, 0, 0])) [37, 38, 39, 40], .code (cd8 [1, 1, 1, 0, 1]), .code (cd8 [1, 1, 1, 1])]) (us := [(62, .bool true), (63, .pointer (some ⟨b1, 4, none⟩))]) (by kernel_rfl) ?_
       refine r_load (c := (cd8 [1, 1, 1, 0, 0])) (i := 37) (d := (some 64)) (ty := 2) (t := 2) (x := (.tmp 63)) (p := ⟨b1, 4, none⟩) (v := .int .i64 a0.Imm) (by kernel_rfl) (by kernel_rfl) (by kernel_rfl) (loads_at 4 (hS470.blk 0 rfl) (by kernel_rfl) (by kernel_rfl)) ?_
       refine sx_split 1 (todo' := [.inRegion (opsOf (cd8 [1, 1, 1, 0, 0])) [39, 40], .code (cd8 [1, 1, 1, 0, 1]), .code (cd8 [1, 1, 1, 1])]) (us := []) (d := 65) (t := (a0.Imm != 0)) (by kernel_rfl) (fun h474 => ?_) (fun h475 => ?_)
       ·skip
        have hp476 := ite_t hp473 h474
        refine sx_run 9 (todo' := [.code (cd8 [1, 1, 1, 0, 1, 0, 1]), .code (cd8 [1, 1, 1, 1])]) (us := [(66, .bool true), (67, .bool true), (2, .string (⟨#[]⟩ : ByteArray)), (3, .int .i64 80)]) (by kernel_rfl) ?_
        have hS477 := hS470.drop
        refine runs_ret (fn := Tryd.f8) (v := .tuple #[.string (⟨#[]⟩ : ByteArray), .int .i64 80]) Tryd.func8 (by kernel_rfl) ?_
        have hr478 := (hq42 _ (Option.some.inj hp476))
        cases hr478
        exact hR _ _ ⟨rfl, hS477⟩
       ·skip
        have hp479 := ite_f hp473 h475
        refine sx_run 5 (todo' := [.code (cd8 [1, 1, 1, 1])]) (us := [(66, .bool false), (67, .bool false)]) (by kernel_rfl) ?_
        refine Runs.fill (m := [none, some (.pointer (some ⟨b1, 0, none⟩)), none, none, some (.string t10), some (.string t11), none, some (.bool t17), some (.bool t22), some (.bool t27), none, none, none, none, none, none, none, none, none, none, none, none, none, none, none, none, none, none, none, none, none, none, none, none, none, none, none, none, none, none, none, none, none, none, none, none, none, none, none, none, none, none, none, none, none, none, none, none, none, none, none, none, none, none, none, none, none, none, none, none, none, none, none, none, none, none, none, none, none, none, none, none, none, none, none, none, none, none, none, none, none, none, none, none, none, none, none, none, none, none, none, none, none, none, none, none, none, none, none, none, none, none, none, none, none, none, none, none, none, none, none, none, none, none, none]) (by kernel_rfl) ?_
        exact J43 (Option.some.inj hp479) _ _ hS470
      ·skip
       have hp480 := ite_f hp468 h472
       refine sx_run 9 (todo' := [.code (cd8 [1, 1, 1, 1])]) (us := [(62, .bool false), (63, undef), (64, undef), (65, undef), (66, .bool false), (67, .bool false)]) (by kernel_rfl) ?_
       refine Runs.fill (m := [none, some (.pointer (some ⟨b1, 0, none⟩)), none, none, some (.string t10), some (.string t11), none, some (.bool t17), some (.bool t22), some (.bool t27), none, none, none, none, none, none, none, none, none, none, none, none, none, none, none, none, none, none, none, none, none, none, none, none, none, none, none, none, none, none, none, none, none, none, none, none, none, none, none, none, none, none, none, none, none, none, none, none, none, none, none, none, none, none, none, none, none, none, none, none, none, none, none, none, none, none, none, none, none, none, none, none, none, none, none, none, none, none, none, none, none, none, none, none, none, none, none, none, none, none, none, none, none, none, none, none, none, none, none, none, none, none, none, none, none, none, none, none, none, none, none, none, none, none, none]) (by kernel_rfl) ?_
       exact J43 (Option.some.inj hp480) _ _ hS470

noncomputable def cd32 (p : List Nat) : Code := sub (bodyOf Tryd.f32) p
def weirref08_Fields.f (a0 : Int) : Option ((Vector Bool 4) × Bool) :=
  (if (a0 == 1) = true then some (((vset (vset (vset (vset (Vector.replicate 4 false) 0 true) 1 false) 2 false) 3 true), true)) else (if (a0 == 2) = true then some (((vset (vset (vset (vset (Vector.replicate 4 false) 0 true) 1 true) 2 false) 3 false), true)) else (((if (a0 == 3) = true then some (true) else (if (a0 == 7) = true then some (true) else (if (a0 == 9) = true then some (true) else some (false)))) : Option Bool) >>= (fun t24 => (if t24 = true then some (((vset (vset (vset (vset (Vector.replicate 4 false) 0 true) 1 false) 2 true) 3 false), true)) else (if (a0 == 4) = true then some (((vset (vset (vset (vset (Vector.replicate 4 false) 0 false) 1 false) 2 true) 3 true), true)) else (((if (a0 == 5) = true then some (true) else (if (a0 == 8) = true then some (true) else some (false))) : Option Bool) >>= (fun t42 => (if t42 = true then some (((vset (vset (vset (vset (Vector.replicate 4 false) 0 false) 1 true) 2 true) 3 false), true)) else (if (a0 == 6) = true then some (((Vector.replicate 4 false), true)) else some (((Vector.replicate 4 false), false))))))))))))
set_option maxHeartbeats 16000000 in
theorem weirref08_Fields.ok (a0 : Int) {w0 : World} {Z : Zm} {fs : List XObj} {w : World} (hS0 : St w0 Z (fs) w) {q0 : Vector Bool 4} {q1 : Bool} (hp0 : weirref08_Fields.f a0 = some (q0, q1)) :
    Calls Tryd.prog 32 #[.int .i64 a0] w (fun e w' => e = .returned (.tuple #[.agg ((encV encB) q0).toArray, .bool q1]) ∧ St w0 Z (fs) w') := by
  refine calls_abs ?_; intro R hR
  unfold weirref08_Fields.f at hp0
  refine calls_of_runs (fn := Tryd.f32) (c := cd32 []) Tryd.func32 (by kernel_rfl) (al := [.int .i64 a0]) rfl (n := 26) rfl ?_
  refine sx_run 2 (todo' := [.inRegion (opsOf (cd32 [0])) [0, 1], .code (cd32 [1])]) (us := []) (by kernel_rfl) ?_
  refine r_alloc (c := (cd32 [0])) (i := 0) (d := (some 2)) (ty := 0) (z := .agg ((encV encB) (Vector.replicate 4 false)).toArray) (t := 65) (cs := (encV encB) (Vector.replicate 4 false)) hS0 (by kernel_rfl) (by kernel_rfl) (by kernel_rfl) (by kernel_rfl) ?_
  intro b1 w2 hS3
  refine sx_split 11 (todo' := [.inRegion (opsOf (cd32 [1, 0, 1, 0, 0])) [1], .code (cd32 [1, 0, 1, 0, 1]), .inBlock 0, .code (cd32 [1, 1])]) (us := [(3, .bool false), (4, .int .i64 a0)]) (d := 6) (t := (a0 == 1)) (by kernel_rfl) (fun h5 => ?_) (fun h6 => ?_)
  ·skip
   have hp7 := ite_t hp0 h5
   refine sx_run 6 (todo' := [.inRegion (opsOf (cd32 [1, 0, 1, 0, 1, 0, 0])) [1, 2], .code (cd32 [1, 0, 1, 0, 1, 0, 1]), .inBlock 0, .code (cd32 [1, 1])]) (us := [(5, .bool true), (7, .agg ((encV encB) (vset (vset (vset (vset (Vector.replicate 4 false) 0 true) 1 false) 2 false) 3 true)).toArray)]) (by kernel_rfl) ?_
   refine r_store (c := (cd32 [1, 0, 1, 0, 1, 0, 0])) (i := 1) (d := none) (ty := 0) (t := 65) (x := (.tmp 2)) (y := (.tmp 7)) (b := b1) (o := 0) (e := 65) (cs := (encV encB) (Vector.replicate 4 false)) (v := .agg ((encV encB) (vset (vset (vset (vset (Vector.replicate 4 false) 0 true) 1 false) 2 false) 3 true)).toArray) (vs := (encV encB) (vset (vset (vset (vset (Vector.replicate 4 false) 0 true) 1 false) 2 false) 3 true)) (cs' := (encV encB) (vset (vset (vset (vset (Vector.replicate 4 false) 0 true) 1 false) 2 false) 3 true)) hS3 (by kernel_rfl) (by kernel_rfl) (by kernel_rfl) (by kernel_rfl) (by kernel_rfl) (lenK ((len_encV len_encB) _) (by kernel_rfl)) ((one_encV one_encB) _) (by simp only [len_encV len_encB, List.length_cons, List.length_nil, List.length_append]; omega) (over_all (((len_encV len_encB) _).trans ((len_encV len_encB) _).symm)) ?_
   intro w8 hS9
   refine sx_run 2 (todo' := [.code (cd32 [1, 0, 1, 0, 1, 0, 1]), .inBlock 0, .code (cd32 [1, 1])]) (us := [(3, .bool true)]) (by kernel_rfl) ?_
   have hS10 := hS9.drop
   refine runs_ret (fn := Tryd.f32) (v := .tuple #[.agg ((encV encB) (vset (vset (vset (vset (Vector.replicate 4 false) 0 true) 1 false) 2 false) 3 true)).toArray, .bool true]) Tryd.func32 (resl_run (fn := Tryd.f32) (by kernel_rfl) (.cell (t := 2) (ty := 65) (by kernel_rfl) (loads_agg (hS9.blk 0 rfl) (by kernel_rfl) (lenK ((len_encV len_encB) _) (by kernel_rfl))) (.tmp (t := 3) (by kernel_rfl) .nil))) ?_
   have hr11 := (Option.some.inj hp7)
   cases hr11
   exact hR _ _ ⟨rfl, hS10⟩
  ·skip
   have hp12 := ite_f hp0 h6
   refine sx_split 6 (todo' := [.inRegion (opsOf (cd32 [1, 0, 1, 0, 1, 1, 0])) [1], .code (cd32 [1, 0, 1, 0, 1, 1, 1]), .inBlock 0, .code (cd32 [1, 1])]) (us := [(5, .bool false)]) (d := 9) (t := (a0 == 2)) (by kernel_rfl) (fun h13 => ?_) (fun h14 => ?_)
   ·skip
    have hp15 := ite_t hp12 h13
    refine sx_run 6 (todo' := [.inRegion (opsOf (cd32 [1, 0, 1, 0, 1, 1, 1, 0, 0])) [1, 2], .code (cd32 [1, 0, 1, 0, 1, 1, 1, 0, 1]), .inBlock 0, .code (cd32 [1, 1])]) (us := [(8, .bool true), (10, .agg ((encV encB) (vset (vset (vset (vset (Vector.replicate 4 false) 0 true) 1 true) 2 false) 3 false)).toArray)]) (by kernel_rfl) ?_
    refine r_store (c := (cd32 [1, 0, 1, 0, 1, 1, 1, 0, 0])) (i := 1) (d := none) (ty := 0) (t := 65) (x := (.tmp 2)) (y := (.tmp 10)) (b := b1) (o := 0) (e := 65) (cs := (encV encB) (Vector.replicate 4 false)) (v := .agg ((encV encB) (vset (vset (vset (vset (Vector.replicate 4 false) 0 true) 1 true) 2 false) 3 false)).toArray) (vs := (encV encB) (vset (vset (vset (vset (Vector.replicate 4 false) 0 true) 1 true) 2 false) 3 false)) (cs' := (encV encB) (vset (vset (vset (vset (Vector.replicate 4 false) 0 true) 1 true) 2 false) 3 false)) hS3 (by kernel_rfl) (by kernel_rfl) (by kernel_rfl) (by kernel_rfl) (by kernel_rfl) (lenK ((len_encV len_encB) _) (by kernel_rfl)) ((one_encV one_encB) _) (by simp only [len_encV len_encB, List.length_cons, List.length_nil, List.length_append]; omega) (over_all (((len_encV len_encB) _).trans ((len_encV len_encB) _).symm)) ?_
    intro w16 hS17
    refine sx_run 2 (todo' := [.code (cd32 [1, 0, 1, 0, 1, 1, 1, 0, 1]), .inBlock 0, .code (cd32 [1, 1])]) (us := [(3, .bool true)]) (by kernel_rfl) ?_
    have hS18 := hS17.drop
    refine runs_ret (fn := Tryd.f32) (v := .tuple #[.agg ((encV encB) (vset (vset (vset (vset (Vector.replicate 4 false) 0 true) 1 true) 2 false) 3 false)).toArray, .bool true]) Tryd.func32 (resl_run (fn := Tryd.f32) (by kernel_rfl) (.cell (t := 2) (ty := 65) (by kernel_rfl) (loads_agg (hS17.blk 0 rfl) (by kernel_rfl) (lenK ((len_encV len_encB) _) (by kernel_rfl))) (.tmp (t := 3) (by kernel_rfl) .nil))) ?_
    have hr19 := (Option.some.inj hp15)
    cases hr19
    exact hR _ _ ⟨rfl, hS18⟩
   ·skip
    have hp20 := ite_f hp12 h14
    obtain ⟨v21, hv22, hp23⟩ := bind_some' hp20
    have J27 : ∀ (t24 : Bool) (he29 : t24 = v21) (l28 : List Value) (w25 : World) (hS26 : St w0 Z (xblk b1 65 ((encV encB) (Vector.replicate 4 false)) :: fs) w25), Runs Tryd.prog 32 [.code (cd32 [1, 0, 1, 0, 1, 1, 1, 1, 1]), .inBlock 0, .code (cd32 [1, 1])] (fill [none, none, some (.pointer (some ⟨b1, 0, none⟩)), none, some (.int .i64 a0), none, none, none, none, none, none, some (.bool t24), none, none, none, none, none, none, none, none, none, none, none, none, none, none, none] l28) w25 R := by
     intro t24 he29 l28 w25 hS26
     subst he29
     try dsimp only at hp23
     cases t24
     ·skip
      have hp30 := ite_f hp23 rfl
      refine sx_split 4 (todo' := [.inRegion (opsOf (cd32 [1, 0, 1, 0, 1, 1, 1, 1, 1, 1, 0])) [1], .code (cd32 [1, 0, 1, 0, 1, 1, 1, 1, 1, 1, 1]), .inBlock 0, .code (cd32 [1, 1])]) (us := []) (d := 17) (t := (a0 == 4)) (by kernel_rfl) (fun h31 => ?_) (fun h32 => ?_)
      ·skip
       have hp33 := ite_t hp30 h31
       refine sx_run 6 (todo' := [.inRegion (opsOf (cd32 [1, 0, 1, 0, 1, 1, 1, 1, 1, 1, 1, 0, 0])) [1, 2], .code (cd32 [1, 0, 1, 0, 1, 1, 1, 1, 1, 1, 1, 0, 1]), .inBlock 0, .code (cd32 [1, 1])]) (us := [(16, .bool true), (18, .agg ((encV encB) (vset (vset (vset (vset (Vector.replicate 4 false) 0 false) 1 false) 2 true) 3 true)).toArray)]) (by kernel_rfl) ?_
       refine r_store (c := (cd32 [1, 0, 1, 0, 1, 1, 1, 1, 1, 1, 1, 0, 0])) (i := 1) (d := none) (ty := 0) (t := 65) (x := (.tmp 2)) (y := (.tmp 18)) (b := b1) (o := 0) (e := 65) (cs := (encV encB) (Vector.replicate 4 false)) (v := .agg ((encV encB) (vset (vset (vset (vset (Vector.replicate 4 false) 0 false) 1 false) 2 true) 3 true)).toArray) (vs := (encV encB) (vset (vset (vset (vset (Vector.replicate 4 false) 0 false) 1 false) 2 true) 3 true)) (cs' := (encV encB) (vset (vset (vset (vset (Vector.replicate 4 false) 0 false) 1 false) 2 true) 3 true)) hS26 (by kernel_rfl) (by kernel_rfl) (by kernel_rfl) (by kernel_rfl) (by kernel_rfl) (lenK ((len_encV len_encB) _) (by kernel_rfl)) ((one_encV one_encB) _) (by simp only [len_encV len_encB, List.length_cons, List.length_nil, List.length_append]; omega) (over_all (((len_encV len_encB) _).trans ((len_encV len_encB) _).symm)) ?_
       intro w34 hS35
       refine sx_run 2 (todo' := [.code (cd32 [1, 0, 1, 0, 1, 1, 1, 1, 1, 1, 1, 0, 1]), .inBlock 0, .code (cd32 [1, 1])]) (us := [(3, .bool true)]) (by kernel_rfl) ?_
       have hS36 := hS35.drop
       refine runs_ret (fn := Tryd.f32) (v := .tuple #[.agg ((encV encB) (vset (vset (vset (vset (Vector.replicate 4 false) 0 false) 1 false) 2 true) 3 true)).toArray, .bool true]) Tryd.func32 (resl_run (fn := Tryd.f32) (by kernel_rfl) (.cell (t := 2) (ty := 65) (by kernel_rfl) (loads_agg (hS35.blk 0 rfl) (by kernel_rfl) (lenK ((len_encV len_encB) _) (by kernel_rfl))) (.tmp (t := 3) (by kernel_rfl) .nil))) ?_
       have hr37 := (Option.some.inj hp33)
       cases hr37
       exact hR _ _ ⟨rfl, hS36⟩
      ·skip
       have hp38 := ite_f hp30 h32
       obtain ⟨v39, hv40, hp41⟩ := bind_some' hp38
       have J45 : ∀ (t42 : Bool) (he47 : t42 = v39) (l46 : List Value) (w43 : World) (hS44 : St w0 Z (xblk b1 65 ((encV encB) (Vector.replicate 4 false)) :: fs) w43), Runs Tryd.prog 32 [.code (cd32 [1, 0, 1, 0, 1, 1, 1, 1, 1, 1, 1, 1, 1]), .inBlock 0, .code (cd32 [1, 1])] (fill [none, none, some (.pointer (some ⟨b1, 0, none⟩)), none, some (.int .i64 a0), none, none, none, none, none, none, none, none, none, none, none, none, none, none, some (.bool t42), none, none, none, none, none, none, none] l46) w43 R := by
        intro t42 he47 l46 w43 hS44
        subst he47
        try dsimp only at hp41
        cases t42
        ·skip
         have hp48 := ite_f hp41 rfl
         refine sx_split 4 (todo' := [.inRegion (opsOf (cd32 [1, 0, 1, 0, 1, 1, 1, 1, 1, 1, 1, 1, 1, 1, 0])) [1], .code (cd32 [1, 0, 1, 0, 1, 1, 1, 1, 1, 1, 1, 1, 1, 1, 1]), .inBlock 0, .code (cd32 [1, 1])]) (us := []) (d := 24) (t := (a0 == 6)) (by kernel_rfl) (fun h49 => ?_) (fun h50 => ?_)
         ·skip
          have hp51 := ite_t hp48 h49
          refine sx_run 6 (todo' := [.inRegion (opsOf (cd32 [1, 0, 1, 0, 1, 1, 1, 1, 1, 1, 1, 1, 1, 1, 1, 0, 0])) [1, 2], .code (cd32 [1, 0, 1, 0, 1, 1, 1, 1, 1, 1, 1, 1, 1, 1, 1, 0, 1]), .inBlock 0, .code (cd32 [1, 1])]) (us := [(23, .bool true), (25, .agg ((encV encB) (Vector.replicate 4 false)).toArray)]) (by kernel_rfl) ?_
          refine r_store (c := (cd32 [1, 0, 1, 0, 1, 1, 1, 1, 1, 1, 1, 1, 1, 1, 1, 0, 0])) (i := 1) (d := none) (ty := 0) (t := 65) (x := (.tmp 2)) (y := (.tmp 25)) (b := b1) (o := 0) (e := 65) (cs := (encV encB) (Vector.replicate 4 false)) (v := .agg ((encV encB) (Vector.replicate 4 false)).toArray) (vs := (encV encB) (Vector.replicate 4 false)) (cs' := (encV encB) (Vector.replicate 4 false)) hS44 (by kernel_rfl) (by kernel_rfl) (by kernel_rfl) (by kernel_rfl) (by kernel_rfl) (lenK ((len_encV len_encB) _) (by kernel_rfl)) ((one_encV one_encB) _) (by simp only [len_encV len_encB, List.length_cons, List.length_nil, List.length_append]; omega) (over_all (((len_encV len_encB) _).trans ((len_encV len_encB) _).symm)) ?_
          intro w52 hS53
          refine sx_run 2 (todo' := [.code (cd32 [1, 0, 1, 0, 1, 1, 1, 1, 1, 1, 1, 1, 1, 1, 1, 0, 1]), .inBlock 0, .code (cd32 [1, 1])]) (us := [(3, .bool true)]) (by kernel_rfl) ?_
          have hS54 := hS53.drop
          refine runs_ret (fn := Tryd.f32) (v := .tuple #[.agg ((encV encB) (Vector.replicate 4 false)).toArray, .bool true]) Tryd.func32 (resl_run (fn := Tryd.f32) (by kernel_rfl) (.cell (t := 2) (ty := 65) (by kernel_rfl) (loads_agg (hS53.blk 0 rfl) (by kernel_rfl) (lenK ((len_encV len_encB) _) (by kernel_rfl))) (.tmp (t := 3) (by kernel_rfl) .nil))) ?_
          have hr55 := (Option.some.inj hp51)
          cases hr55
          exact hR _ _ ⟨rfl, hS54⟩
         ·skip
          have hp56 := ite_f hp48 h50
          refine sx_run 8 (todo' := [.inRegion (opsOf (cd32 [1, 1, 0])) [1, 2], .code (cd32 [1, 1, 1])]) (us := [(23, .bool false), (26, .agg ((encV encB) (Vector.replicate 4 false)).toArray)]) (by kernel_rfl) ?_
          refine r_store (c := (cd32 [1, 1, 0])) (i := 1) (d := none) (ty := 0) (t := 65) (x := (.tmp 2)) (y := (.tmp 26)) (b := b1) (o := 0) (e := 65) (cs := (encV encB) (Vector.replicate 4 false)) (v := .agg ((encV encB) (Vector.replicate 4 false)).toArray) (vs := (encV encB) (Vector.replicate 4 false)) (cs' := (encV encB) (Vector.replicate 4 false)) hS44 (by kernel_rfl) (by kernel_rfl) (by kernel_rfl) (by kernel_rfl) (by kernel_rfl) (lenK ((len_encV len_encB) _) (by kernel_rfl)) ((one_encV one_encB) _) (by simp only [len_encV len_encB, List.length_cons, List.length_nil, List.length_append]; omega) (over_all (((len_encV len_encB) _).trans ((len_encV len_encB) _).symm)) ?_
          intro w57 hS58
          refine sx_run 2 (todo' := [.code (cd32 [1, 1, 1])]) (us := [(3, .bool false)]) (by kernel_rfl) ?_
          have hS59 := hS58.drop
          refine runs_ret (fn := Tryd.f32) (v := .tuple #[.agg ((encV encB) (Vector.replicate 4 false)).toArray, .bool false]) Tryd.func32 (resl_run (fn := Tryd.f32) (by kernel_rfl) (.cell (t := 2) (ty := 65) (by kernel_rfl) (loads_agg (hS58.blk 0 rfl) (by kernel_rfl) (lenK ((len_encV len_encB) _) (by kernel_rfl))) (.tmp (t := 3) (by kernel_rfl) .nil))) ?_
          have hr60 := (Option.some.inj hp56)
          cases hr60
          exact hR _ _ ⟨rfl, hS59⟩
        ·skip
         have hp61 := ite_t hp41 rfl
         refine sx_run 4 (todo' := [.inRegion (opsOf (cd32 [1, 0, 1, 0, 1, 1, 1, 1, 1, 1, 1, 1, 1, 0, 0])) [1, 2], .code (cd32 [1, 0, 1, 0, 1, 1, 1, 1, 1, 1, 1, 1, 1, 0, 1]), .inBlock 0, .code (cd32 [1, 1])]) (us := [(22, .agg ((encV encB) (vset (vset (vset (vset (Vector.replicate 4 false) 0 false) 1 true) 2 true) 3 false)).toArray)]) (by kernel_rfl) ?_
         refine r_store (c := (cd32 [1, 0, 1, 0, 1, 1, 1, 1, 1, 1, 1, 1, 1, 0, 0])) (i := 1) (d := none) (ty := 0) (t := 65) (x := (.tmp 2)) (y := (.tmp 22)) (b := b1) (o := 0) (e := 65) (cs := (encV encB) (Vector.replicate 4 false)) (v := .agg ((encV encB) (vset (vset (vset (vset (Vector.replicate 4 false) 0 false) 1 true) 2 true) 3 false)).toArray) (vs := (encV encB) (vset (vset (vset (vset (Vector.replicate 4 false) 0 false) 1 true) 2 true) 3 false)) (cs' := (encV encB) (vset (vset (vset (vset (Vector.replicate 4 false) 0 false) 1 true) 2 true) 3 false)) hS44 (by kernel_rfl) (by kernel_rfl) (by kernel_rfl) (by kernel_rfl) (by kernel_rfl) (lenK ((len_encV len_encB) _) (by kernel_rfl)) ((one_encV one_encB) _) (by simp only [len_encV len_encB, List.length_cons, List.length_nil, List.length_append]; omega) (over_all (((len_encV len_encB) _).trans ((len_encV len_encB) _).symm)) ?_
         intro w62 hS63
         refine sx_run 2 (todo' := [.code (cd32 [1, 0, 1, 0, 1, 1, 1, 1, 1, 1, 1, 1, 1, 0, 1]), .inBlock 0, .code (cd32 [1, 1])]) (us := [(3, .bool true)]) (by kernel_rfl) ?_
         have hS64 := hS63.drop
         refine runs_ret (fn := Tryd.f32) (v := .tuple #[.agg ((encV encB) (vset (vset (vset (vset (Vector.replicate 4 false) 0 false) 1 true) 2 true) 3 false)).toArray, .bool true]) Tryd.func32 (resl_run (fn := Tryd.f32) (by kernel_rfl) (.cell (t := 2) (ty := 65) (by kernel_rfl) (loads_agg (hS63.blk 0 rfl) (by kernel_rfl) (lenK ((len_encV len_encB) _) (by kernel_rfl))) (.tmp (t := 3) (by kernel_rfl) .nil))) ?_
         have hr65 := (Option.some.inj hp61)
         cases hr65
         exact hR _ _ ⟨rfl, hS64⟩
       refine sx_split 7 (todo' := [.inRegion (opsOf (cd32 [1, 0, 1, 0, 1, 1, 1, 1, 1, 1, 1, 1, 0, 0])) [1], .code (cd32 [1, 0, 1, 0, 1, 1, 1, 1, 1, 1, 1, 1, 0, 1]), .code (cd32 [1, 0, 1, 0, 1, 1, 1, 1, 1, 1, 1, 1, 1]), .inBlock 0, .code (cd32 [1, 1])]) (us := [(16, .bool false)]) (d := 20) (t := (a0 == 5)) (by kernel_rfl) (fun h66 => ?_) (fun h67 => ?_)
       ·skip
        have hp68 := ite_t hv40 h66
        refine sx_run 4 (todo' := [.code (cd32 [1, 0, 1, 0, 1, 1, 1, 1, 1, 1, 1, 1, 1]), .inBlock 0, .code (cd32 [1, 1])]) (us := [(19, .bool true)]) (by kernel_rfl) ?_
        refine Runs.fill (m := [none, none, some (.pointer (some ⟨b1, 0, none⟩)), none, some (.int .i64 a0), none, none, none, none, none, none, none, none, none, none, none, none, none, none, some (.bool true), none, none, none, none, none, none, none]) (by kernel_rfl) ?_
        exact J45 true (Option.some.inj hp68) _ _ hS26
       ·skip
        have hp69 := ite_f hv40 h67
        refine sx_split 5 (todo' := [.inRegion (opsOf (cd32 [1, 0, 1, 0, 1, 1, 1, 1, 1, 1, 1, 1, 0, 1, 1])) [1], .code (cd32 [1, 0, 1, 0, 1, 1, 1, 1, 1, 1, 1, 1, 1]), .inBlock 0, .code (cd32 [1, 1])]) (us := [(19, .bool false)]) (d := 21) (t := (a0 == 8)) (by kernel_rfl) (fun h70 => ?_) (fun h71 => ?_)
        ·skip
         have hp72 := ite_t hp69 h70
         refine sx_run 2 (todo' := [.code (cd32 [1, 0, 1, 0, 1, 1, 1, 1, 1, 1, 1, 1, 1]), .inBlock 0, .code (cd32 [1, 1])]) (us := [(19, .bool true)]) (by kernel_rfl) ?_
         refine Runs.fill (m := [none, none, some (.pointer (some ⟨b1, 0, none⟩)), none, some (.int .i64 a0), none, none, none, none, none, none, none, none, none, none, none, none, none, none, some (.bool true), none, none, none, none, none, none, none]) (by kernel_rfl) ?_
         exact J45 true (Option.some.inj hp72) _ _ hS26
        ·skip
         have hp73 := ite_f hp69 h71
         refine sx_run 2 (todo' := [.code (cd32 [1, 0, 1, 0, 1, 1, 1, 1, 1, 1, 1, 1, 1]), .inBlock 0, .code (cd32 [1, 1])]) (us := [(19, .bool false)]) (by kernel_rfl) ?_
         refine Runs.fill (m := [none, none, some (.pointer (some ⟨b1, 0, none⟩)), none, some (.int .i64 a0), none, none, none, none, none, none, none, none, none, none, none, none, none, none, some (.bool false), none, none, none, none, none, none, none]) (by kernel_rfl) ?_
         exact J45 false (Option.some.inj hp73) _ _ hS26
     ·skip
      have hp74 := ite_t hp23 rfl
      refine sx_run 4 (todo' := [.inRegion (opsOf (cd32 [1, 0, 1, 0, 1, 1, 1, 1, 1, 0, 0])) [1, 2], .code (cd32 [1, 0, 1, 0, 1, 1, 1, 1, 1, 0, 1]), .inBlock 0, .code (cd32 [1, 1])]) (us := [(15, .agg ((encV encB) (vset (vset (vset (vset (Vector.replicate 4 false) 0 true) 1 false) 2 true) 3 false)).toArray)]) (by kernel_rfl) ?_
      refine r_store (c := (cd32 [1, 0, 1, 0, 1, 1, 1, 1, 1, 0, 0])) (i := 1) (d := none) (ty := 0) (t := 65) (x := (.tmp 2)) (y := (.tmp 15)) (b := b1) (o := 0) (e := 65) (cs := (encV encB) (Vector.replicate 4 false)) (v := .agg ((encV encB) (vset (vset (vset (vset (Vector.replicate 4 false) 0 true) 1 false) 2 true) 3 false)).toArray) (vs := (encV encB) (vset (vset (vset (vset (Vector.replicate 4 false) 0 true) 1 false) 2 true) 3 false)) (cs' := (encV encB) (vset (vset (vset (vset (Vector.replicate 4 false) 0 true) 1 false) 2 true) 3 false)) hS26 (by kernel_rfl) (by kernel_rfl) (by kernel_rfl) (by kernel_rfl) (by kernel_rfl) (lenK ((len_encV len_encB) _) (by kernel_rfl)) ((one_encV one_encB) _) (by simp only [len_encV len_encB, List.length_cons, List.length_nil, List.length_append]; omega) (over_all (((len_encV len_encB) _).trans ((len_encV len_encB) _).symm)) ?_
      intro w75 hS76
      refine sx_run 2 (todo' := [.code (cd32 [1, 0, 1, 0, 1, 1, 1, 1, 1, 0, 1]), .inBlock 0, .code (cd32 [1, 1])]) (us := [(3, .bool true)]) (by kernel_rfl) ?_
      have hS77 := hS76.drop
      refine runs_ret (fn := Tryd.f32) (v := .tuple #[.agg ((encV encB) (vset (vset (vset (vset (Vector.replicate 4 false) 0 true) 1 false) 2 true) 3 false)).toArray, .bool true]) Tryd.func32 (resl_run (fn := Tryd.f32) (by kernel_rfl) (.cell (t := 2) (ty := 65) (by kernel_rfl) (loads_agg (hS76.blk 0 rfl) (by kernel_rfl) (lenK ((len_encV len_encB) _) (by kernel_rfl))) (.tmp (t := 3) (by kernel_rfl) .nil))) ?_
      have hr78 := (Option.some.inj hp74)
      cases hr78
      exact hR _ _ ⟨rfl, hS77⟩
    refine sx_split 7 (todo' := [.inRegion (opsOf (cd32 [1, 0, 1, 0, 1, 1, 1, 1, 0, 0])) [1], .code (cd32 [1, 0, 1, 0, 1, 1, 1, 1, 0, 1]), .code (cd32 [1, 0, 1, 0, 1, 1, 1, 1, 1]), .inBlock 0, .code (cd32 [1, 1])]) (us := [(8, .bool false)]) (d := 12) (t := (a0 == 3)) (by kernel_rfl) (fun h79 => ?_) (fun h80 => ?_)
    ·skip
     have hp81 := ite_t hv22 h79
     refine sx_run 4 (todo' := [.code (cd32 [1, 0, 1, 0, 1, 1, 1, 1, 1]), .inBlock 0, .code (cd32 [1, 1])]) (us := [(11, .bool true)]) (by kernel_rfl) ?_
     refine Runs.fill (m := [none, none, some (.pointer (some ⟨b1, 0, none⟩)), none, some (.int .i64 a0), none, none, none, none, none, none, some (.bool true), none, none, none, none, none, none, none, none, none, none, none, none, none, none, none]) (by kernel_rfl) ?_
     exact J27 true (Option.some.inj hp81) _ _ hS3
    ·skip
     have hp82 := ite_f hv22 h80
     refine sx_split 6 (todo' := [.inRegion (opsOf (cd32 [1, 0, 1, 0, 1, 1, 1, 1, 0, 1, 1, 0])) [1], .code (cd32 [1, 0, 1, 0, 1, 1, 1, 1, 0, 1, 1, 1]), .code (cd32 [1, 0, 1, 0, 1, 1, 1, 1, 1]), .inBlock 0, .code (cd32 [1, 1])]) (us := [(11, .bool false)]) (d := 13) (t := (a0 == 7)) (by kernel_rfl) (fun h83 => ?_) (fun h84 => ?_)
     ·skip
      have hp85 := ite_t hp82 h83
      refine sx_run 4 (todo' := [.code (cd32 [1, 0, 1, 0, 1, 1, 1, 1, 1]), .inBlock 0, .code (cd32 [1, 1])]) (us := [(11, .bool true)]) (by kernel_rfl) ?_
      refine Runs.fill (m := [none, none, some (.pointer (some ⟨b1, 0, none⟩)), none, some (.int .i64 a0), none, none, none, none, none, none, some (.bool true), none, none, none, none, none, none, none, none, none, none, none, none, none, none, none]) (by kernel_rfl) ?_
      exact J27 true (Option.some.inj hp85) _ _ hS3
     ·skip
      have hp86 := ite_f hp82 h84
      refine sx_split 5 (todo' := [.inRegion (opsOf (cd32 [1, 0, 1, 0, 1, 1, 1, 1, 0, 1, 1, 1, 1])) [1], .code (cd32 [1, 0, 1, 0, 1, 1, 1, 1, 1]), .inBlock 0, .code (cd32 [1, 1])]) (us := [(11, .bool false)]) (d := 14) (t := (a0 == 9)) (by kernel_rfl) (fun h87 => ?_) (fun h88 => ?_)
      ·skip
       have hp89 := ite_t hp86 h87
       refine sx_run 2 (todo' := [.code (cd32 [1, 0, 1, 0, 1, 1, 1, 1, 1]), .inBlock 0, .code (cd32 [1, 1])]) (us := [(11, .bool true)]) (by kernel_rfl) ?_
       refine Runs.fill (m := [none, none, some (.pointer (some ⟨b1, 0, none⟩)), none, some (.int .i64 a0), none, none, none, none, none, none, some (.bool true), none, none, none, none, none, none, none, none, none, none, none, none, none, none, none]) (by kernel_rfl) ?_
       exact J27 true (Option.some.inj hp89) _ _ hS3
      ·skip
       have hp90 := ite_f hp86 h88
       refine sx_run 2 (todo' := [.code (cd32 [1, 0, 1, 0, 1, 1, 1, 1, 1]), .inBlock 0, .code (cd32 [1, 1])]) (us := [(11, .bool false)]) (by kernel_rfl) ?_
       refine Runs.fill (m := [none, none, some (.pointer (some ⟨b1, 0, none⟩)), none, some (.int .i64 a0), none, none, none, none, none, none, some (.bool false), none, none, none, none, none, none, none, none, none, none, none, none, none, none, none]) (by kernel_rfl) ?_
       exact J27 false (Option.some.inj hp90) _ _ hS3

noncomputable def cd33 (p : List Nat) : Code := sub (bodyOf Tryd.f33) p
def weirref08_field.f (a0 : Bool) (a1 : ByteArray) : Option Bool :=
  (if a0 = true then (weirref05_Name.f a1 >>= (fun t9 => some (t9))) else (if (seq a1 (⟨#[]⟩ : ByteArray)) = true then some (true) else some (false)))
set_option maxHeartbeats 16000000 in
theorem weirref08_field.ok (a0 : Bool) (a1 : ByteArray) {w0 : World} {Z : Zm} {fs : List XObj} {w : World} (hS0 : St w0 Z (fs) w) {q0 : Bool} (hp0 : weirref08_field.f a0 a1 = some q0) :
    Calls Tryd.prog 33 #[.bool a0, .string a1] w (fun e w' => e = .returned (.bool q0) ∧ St w0 Z (fs) w') := by
  refine calls_abs ?_; intro R hR
  unfold weirref08_field.f at hp0
  refine calls_of_runs (fn := Tryd.f33) (c := cd33 []) Tryd.func33 (by kernel_rfl) (al := [.bool a0, .string a1]) rfl (n := 8) rfl ?_
  refine sx_run 9 (todo' := [.code (cd33 [1, 0, 1]), .code (cd33 [1, 1])]) (us := [(4, .bool false), (5, .bool a0)]) (by kernel_rfl) ?_
  cases a0
  ·skip
   have hp1 := ite_f hp0 rfl
   refine sx_split 6 (todo' := [.inRegion (opsOf (cd33 [1, 1, 0])) [2], .code (cd33 [1, 1, 1])]) (us := [(8, .string a1)]) (d := 9) (t := (seq a1 (⟨#[]⟩ : ByteArray))) (by kernel_rfl) (fun h2 => ?_) (fun h3 => ?_)
   ·skip
    have hp4 := ite_t hp1 h2
    refine sx_run 2 (todo' := [.code (cd33 [1, 1, 1])]) (us := [(4, .bool true)]) (by kernel_rfl) ?_
    refine runs_ret (fn := Tryd.f33) (v := .bool true) Tryd.func33 (by kernel_rfl) ?_
    have hr5 := (Option.some.inj hp4)
    cases hr5
    exact hR _ _ ⟨rfl, hS0⟩
   ·skip
    have hp6 := ite_f hp1 h3
    refine sx_run 2 (todo' := [.code (cd33 [1, 1, 1])]) (us := [(4, .bool false)]) (by kernel_rfl) ?_
    refine runs_ret (fn := Tryd.f33) (v := .bool false) Tryd.func33 (by kernel_rfl) ?_
    have hr7 := (Option.some.inj hp6)
    cases hr7
    exact hR _ _ ⟨rfl, hS0⟩
  ·skip
   have hp8 := ite_t hp0 rfl
   refine sx_run 4 (todo' := [.inRegion (opsOf (cd33 [1, 0, 1, 0, 0])) [1, 2], .code (cd33 [1, 0, 1, 0, 1]), .code (cd33 [1, 1])]) (us := [(6, .string a1)]) (by kernel_rfl) ?_
   obtain ⟨t9, hr10, hp11⟩ := bind_some' hp8
   refine r_call1 (c := (cd33 [1, 0, 1, 0, 0])) (i := 1) (d := (some 7)) (g := 25) (args := #[.string a1]) (by kernel_rfl) (by kernel_rfl) (by kernel_rfl) (by kernel_rfl) (weirref05_Name.ok a1 hS0 hr10) ?_
   rintro _ w12 ⟨rfl, hS13⟩
   refine ⟨.bool t9, rfl, ?_⟩
   refine sx_run 2 (todo' := [.code (cd33 [1, 0, 1, 0, 1]), .code (cd33 [1, 1])]) (us := [(4, .bool t9)]) (by kernel_rfl) ?_
   refine runs_ret (fn := Tryd.f33) (v := .bool t9) Tryd.func33 (by kernel_rfl) ?_
   have hr14 := (Option.some.inj hp11)
   cases hr14
   exact hR _ _ ⟨rfl, hS13⟩

noncomputable def cd22 (p : List Nat) : Code := sub (bodyOf Tryd.f22) p
def weirref08_instr.f (a0 : api_Instr) : Option Bool :=
  (weirref08_Fields.f a0.Op >>= (fun (t5, t6) => (if t6 = true then (if 0 ≤ (0 : Int) ∧ (0 : Int) < 4 then (if (vget t5 (0 : Int)) = true then (weirref08_field.f true a0.Reg >>= (fun t27 => (if t27 = true then (if 0 ≤ (1 : Int) ∧ (1 : Int) < 4 then (if (vget t5 (1 : Int)) = true then (weirref08_field.f true a0.Src >>= (fun t42 => (if t42 = true then (if 0 ≤ (2 : Int) ∧ (2 : Int) < 4 then (if (vget t5 (2 : Int)) = true then (weirref08_field.f true a0.Loc >>= (fun t57 => (if t57 = true then (if 0 ≤ (3 : Int) ∧ (3 : Int) < 4 then (if (vget t5 (3 : Int)) = true then some (true) else (if (a0.Imm == 0) = true then some (true) else some (false))) else none) else some (false)))) else (weirref08_field.f false a0.Loc >>= (fun t87 => (if t87 = true then (if 0 ≤ (3 : Int) ∧ (3 : Int) < 4 then (if (vget t5 (3 : Int)) = true then some (true) else (if (a0.Imm == 0) = true then some (true) else some (false))) else none) else some (false))))) else none) else some (false)))) else (weirref08_field.f false a0.Src >>= (fun t117 => (if t117 = true then (if 0 ≤ (2 : Int) ∧ (2 : Int) < 4 then (if (vget t5 (2 : Int)) = true then (weirref08_field.f true a0.Loc >>= (fun t132 => (if t132 = true then (if 0 ≤ (3 : Int) ∧ (3 : Int) < 4 then (if (vget t5 (3 : Int)) = true then some (true) else (if (a0.Imm == 0) = true then some (true) else some (false))) else none) else some (false)))) else (weirref08_field.f false a0.Loc >>= (fun t162 => (if t162 = true then (if 0 ≤ (3 : Int) ∧ (3 : Int) < 4 then (if (vget t5 (3 : Int)) = true then some (true) else (if (a0.Imm == 0) = true then some (true) else some (false))) else none) else some (false))))) else none) else some (false))))) else none) else some (false)))) else (weirref08_field.f false a0.Reg >>= (fun t192 => (if t192 = true then (if 0 ≤ (1 : Int) ∧ (1 : Int) < 4 then (if (vget t5 (1 : Int)) = true then (weirref08_field.f true a0.Src >>= (fun t207 => (if t207 = true then (if 0 ≤ (2 : Int) ∧ (2 : Int) < 4 then (if (vget t5 (2 : Int)) = true then (weirref08_field.f true a0.Loc >>= (fun t222 => (if t222 = true then (if 0 ≤ (3 : Int) ∧ (3 : Int) < 4 then (if (vget t5 (3 : Int)) = true then some (true) else (if (a0.Imm == 0) = true then some (true) else some (false))) else none) else some (false)))) else (weirref08_field.f false a0.Loc >>= (fun t252 => (if t252 = true then (if 0 ≤ (3 : Int) ∧ (3 : Int) < 4 then (if (vget t5 (3 : Int)) = true then some (true) else (if (a0.Imm == 0) = true then some (true) else some (false))) else none) else some (false))))) else none) else some (false)))) else (weirref08_field.f false a0.Src >>= (fun t282 => (if t282 = true then (if 0 ≤ (2 : Int) ∧ (2 : Int) < 4 then (if (vget t5 (2 : Int)) = true then (weirref08_field.f true a0.Loc >>= (fun t297 => (if t297 = true then (if 0 ≤ (3 : Int) ∧ (3 : Int) < 4 then (if (vget t5 (3 : Int)) = true then some (true) else (if (a0.Imm == 0) = true then some (true) else some (false))) else none) else some (false)))) else (weirref08_field.f false a0.Loc >>= (fun t327 => (if t327 = true then (if 0 ≤ (3 : Int) ∧ (3 : Int) < 4 then (if (vget t5 (3 : Int)) = true then some (true) else (if (a0.Imm == 0) = true then some (true) else some (false))) else none) else some (false))))) else none) else some (false))))) else none) else some (false))))) else none) else some (false))))
set_option maxHeartbeats 16000000 in
theorem weirref08_instr.ok (a0 : api_Instr) {w0 : World} {Z : Zm} {fs : List XObj} {w : World} (hS0 : St w0 Z (fs) w) {q0 : Bool} (hp0 : weirref08_instr.f a0 = some q0) :
    Calls Tryd.prog 22 #[.agg (enc_api_Instr a0).toArray] w (fun e w' => e = .returned (.bool q0) ∧ St w0 Z (fs) w') := by
  refine calls_abs ?_; intro R hR
  unfold weirref08_instr.f at hp0
  refine calls_of_runs (fn := Tryd.f22) (c := cd22 []) Tryd.func22 (by kernel_rfl) (al := [.agg (enc_api_Instr a0).toArray]) rfl (n := 41) rfl ?_
  refine sx_run 2 (todo' := [.inRegion (opsOf (cd22 [0])) [0, 1], .code (cd22 [1])]) (us := []) (by kernel_rfl) ?_
  refine r_box (c := (cd22 [0])) (i := 0) (d := (some 1)) (ty := 0) (x := (.tmp 0)) (v := .agg (enc_api_Instr a0).toArray) (t := 27) (cs := enc_api_Instr a0) hS0 (by kernel_rfl) (by kernel_rfl) (by kernel_rfl) (by kernel_rfl) ?_
  intro b1 w2 hS3
  refine sx_run 5 (todo' := [.inRegion (opsOf (cd22 [1, 0])) [1, 2, 3, 4, 5, 6, 7, 8], .code (cd22 [1, 1])]) (us := [(2, .bool false), (6, .pointer (some ⟨b1, 0, none⟩))]) (by kernel_rfl) ?_
  refine r_load (c := (cd22 [1, 0])) (i := 1) (d := (some 7)) (ty := 3) (t := 3) (x := (.tmp 6)) (p := ⟨b1, 0, none⟩) (v := .int .i64 a0.Op) (by kernel_rfl) (by kernel_rfl) (by kernel_rfl) (loads_at 0 (hS3.blk 0 rfl) (by kernel_rfl) (by kernel_rfl)) ?_
  obtain ⟨⟨t5, t6⟩, hr7, hp8⟩ := bind_some' hp0
  try dsimp only at hp8
  refine r_call1 (c := (cd22 [1, 0])) (i := 2) (d := (some 8)) (g := 32) (args := #[.int .i64 a0.Op]) (by kernel_rfl) (by kernel_rfl) (by kernel_rfl) (by kernel_rfl) (weirref08_Fields.ok a0.Op hS3 hr7) ?_
  rintro _ w9 ⟨rfl, hS10⟩
  refine ⟨.tuple #[.agg ((encV encB) t5).toArray, .bool t6], rfl, ?_⟩
  refine sx_run 3 (todo' := [.inRegion (opsOf (cd22 [1, 0])) [6, 7, 8], .code (cd22 [1, 1])]) (us := [(5, .tuple #[.agg ((encV encB) t5).toArray, .bool t6]), (9, .agg ((encV encB) t5).toArray), (10, .bool t6)]) (by kernel_rfl) ?_
  refine r_alloc (c := (cd22 [1, 0])) (i := 6) (d := (some 3)) (ty := 0) (z := .agg ((encV encB) (Vector.replicate 4 false)).toArray) (t := 65) (cs := (encV encB) (Vector.replicate 4 false)) hS10 (by kernel_rfl) (by kernel_rfl) (by kernel_rfl) (by kernel_rfl) ?_
  intro b11 w12 hS13
  refine r_store (c := (cd22 [1, 0])) (i := 7) (d := none) (ty := 0) (t := 65) (x := (.tmp 3)) (y := (.tmp 9)) (b := b11) (o := 0) (e := 65) (cs := (encV encB) (Vector.replicate 4 false)) (v := .agg ((encV encB) t5).toArray) (vs := (encV encB) t5) (cs' := (encV encB) t5) hS13 (by kernel_rfl) (by kernel_rfl) (by kernel_rfl) (by kernel_rfl) (by kernel_rfl) (lenK ((len_encV len_encB) _) (by kernel_rfl)) ((one_encV one_encB) _) (by simp only [len_encV len_encB, List.length_cons, List.length_nil, List.length_append]; omega) (over_all (((len_encV len_encB) _).trans ((len_encV len_encB) _).symm)) ?_
  intro w15 hS16
  refine sx_run 6 (todo' := [.inRegion (opsOf (cd22 [1, 1, 0])) [2, 3, 4, 5, 6, 7, 8, 9, 10, 11, 12, 13, 14, 15, 16, 17, 18, 19, 20, 21, 22, 23, 24, 25, 26, 27, 28, 29, 30, 31], .code (cd22 [1, 1, 1])]) (us := [(4, .bool t6), (11, .bool t6), (12, .bool t6)]) (by kernel_rfl) ?_
  cases t6
  ·skip
   have hp17 := ite_f hp8 rfl
   refine sx_run 31 (todo' := [.code (cd22 [1, 1, 1])]) (us := [(13, undef), (14, undef), (15, undef), (16, undef), (17, undef), (18, .bool false), (19, .bool false), (20, undef), (21, undef), (22, undef), (23, undef), (24, undef), (25, .bool false), (26, .bool false), (27, undef), (28, undef), (29, undef), (30, undef), (31, undef), (32, .bool false), (33, .bool false), (34, undef), (35, undef), (36, undef), (37, undef), (38, undef), (39, undef), (40, undef), (41, .bool false), (2, .bool false)]) (by kernel_rfl) ?_
   have hS18 := hS16.drop
   have hS19 := hS18.drop
   refine runs_ret (fn := Tryd.f22) (v := .bool false) Tryd.func22 (by kernel_rfl) ?_
   have hr20 := (Option.some.inj hp17)
   cases hr20
   exact hR _ _ ⟨rfl, hS19⟩
  ·skip
   have hp21 := ite_t hp8 rfl
   obtain ⟨g22, hp23⟩ := ite_some hp21
   refine r_indexArr (c := (cd22 [1, 1, 0])) (i := 2) (d := (some 13)) (ty := 0) (t := 65) (e := 4) (sz := 1) (kk := .i64) (x := (.tmp 3)) (y := (.const (.int .i64 0))) (b := b11) (o' := 0) (n := 4) (j := (0 : Int)) (by kernel_rfl) (by kernel_rfl) (by kernel_rfl) (by kernel_rfl) (by kernel_rfl) (by kernel_rfl) g22.1 g22.2 ?_
   refine r_load (c := (cd22 [1, 1, 0])) (i := 3) (d := (some 14)) (ty := 4) (t := 4) (x := (.tmp 13)) (p := ⟨b11, 0 + (0 : Int).toNat * 1, none⟩) (v := .bool (vget t5 (0 : Int))) (by kernel_rfl) (by kernel_rfl) (by kernel_rfl) (loads_at 0 (cells_vget (hS16.blk 0 rfl) len_encB g22.1 g22.2) (by kernel_rfl) (by kernel_rfl)) ?_
   refine r_split (vget t5 (0 : Int)) (fun h24 => ?_) (fun h25 => ?_)
   ·skip
    have hp26 := ite_t hp23 h24
    refine sx_run 1 (todo' := [.inRegion (opsOf (cd22 [1, 1, 0])) [5, 6, 7, 8, 9, 10, 11, 12, 13, 14, 15, 16, 17, 18, 19, 20, 21, 22, 23, 24, 25, 26, 27, 28, 29, 30, 31], .code (cd22 [1, 1, 1])]) (us := [(15, .pointer (some ⟨b1, 1, none⟩))]) (by kernel_rfl) ?_
    refine r_load (c := (cd22 [1, 1, 0])) (i := 5) (d := (some 16)) (ty := 9) (t := 9) (x := (.tmp 15)) (p := ⟨b1, 1, none⟩) (v := .string a0.Reg) (by kernel_rfl) (by kernel_rfl) (by kernel_rfl) (loads_at 1 (hS16.blk 1 rfl) (by kernel_rfl) (by kernel_rfl)) ?_
    obtain ⟨t27, hr28, hp29⟩ := bind_some' hp26
    refine r_call1 (c := (cd22 [1, 1, 0])) (i := 6) (d := (some 17)) (g := 33) (args := #[.bool true, .string a0.Reg]) (by kernel_rfl) (by kernel_rfl) (by kernel_rfl) (by kernel_rfl) (weirref08_field.ok true a0.Reg hS16 hr28) ?_
    rintro _ w30 ⟨rfl, hS31⟩
    refine ⟨.bool t27, rfl, ?_⟩
    refine sx_run 2 (todo' := [.inRegion (opsOf (cd22 [1, 1, 0])) [9, 10, 11, 12, 13, 14, 15, 16, 17, 18, 19, 20, 21, 22, 23, 24, 25, 26, 27, 28, 29, 30, 31], .code (cd22 [1, 1, 1])]) (us := [(18, .bool t27), (19, .bool t27)]) (by kernel_rfl) ?_
    cases t27
    ·skip
     have hp32 := ite_f hp29 rfl
     refine sx_run 24 (todo' := [.code (cd22 [1, 1, 1])]) (us := [(20, undef), (21, undef), (22, undef), (23, undef), (24, undef), (25, .bool false), (26, .bool false), (27, undef), (28, undef), (29, undef), (30, undef), (31, undef), (32, .bool false), (33, .bool false), (34, undef), (35, undef), (36, undef), (37, undef), (38, undef), (39, undef), (40, undef), (41, .bool false), (2, .bool false)]) (by kernel_rfl) ?_
     have hS33 := hS31.drop
     have hS34 := hS33.drop
     refine runs_ret (fn := Tryd.f22) (v := .bool false) Tryd.func22 (by kernel_rfl) ?_
     have hr35 := (Option.some.inj hp32)
     cases hr35
     exact hR _ _ ⟨rfl, hS34⟩
    ·skip
     have hp36 := ite_t hp29 rfl
     obtain ⟨g37, hp38⟩ := ite_some hp36
     refine r_indexArr (c := (cd22 [1, 1, 0])) (i := 9) (d := (some 20)) (ty := 0) (t := 65) (e := 4) (sz := 1) (kk := .i64) (x := (.tmp 3)) (y := (.const (.int .i64 1))) (b := b11) (o' := 0) (n := 4) (j := (1 : Int)) (by kernel_rfl) (by kernel_rfl) (by kernel_rfl) (by kernel_rfl) (by kernel_rfl) (by kernel_rfl) g37.1 g37.2 ?_
     refine r_load (c := (cd22 [1, 1, 0])) (i := 10) (d := (some 21)) (ty := 4) (t := 4) (x := (.tmp 20)) (p := ⟨b11, 0 + (1 : Int).toNat * 1, none⟩) (v := .bool (vget t5 (1 : Int))) (by kernel_rfl) (by kernel_rfl) (by kernel_rfl) (loads_at 0 (cells_vget (hS31.blk 0 rfl) len_encB g37.1 g37.2) (by kernel_rfl) (by kernel_rfl)) ?_
     refine r_split (vget t5 (1 : Int)) (fun h39 => ?_) (fun h40 => ?_)
     ·skip
      have hp41 := ite_t hp38 h39
      refine sx_run 1 (todo' := [.inRegion (opsOf (cd22 [1, 1, 0])) [12, 13, 14, 15, 16, 17, 18, 19, 20, 21, 22, 23, 24, 25, 26, 27, 28, 29, 30, 31], .code (cd22 [1, 1, 1])]) (us := [(22, .pointer (some ⟨b1, 2, none⟩))]) (by kernel_rfl) ?_
      refine r_load (c := (cd22 [1, 1, 0])) (i := 12) (d := (some 23)) (ty := 9) (t := 9) (x := (.tmp 22)) (p := ⟨b1, 2, none⟩) (v := .string a0.Src) (by kernel_rfl) (by kernel_rfl) (by kernel_rfl) (loads_at 2 (hS31.blk 1 rfl) (by kernel_rfl) (by kernel_rfl)) ?_
      obtain ⟨t42, hr43, hp44⟩ := bind_some' hp41
      refine r_call1 (c := (cd22 [1, 1, 0])) (i := 13) (d := (some 24)) (g := 33) (args := #[.bool true, .string a0.Src]) (by kernel_rfl) (by kernel_rfl) (by kernel_rfl) (by kernel_rfl) (weirref08_field.ok true a0.Src hS31 hr43) ?_
      rintro _ w45 ⟨rfl, hS46⟩
      refine ⟨.bool t42, rfl, ?_⟩
      refine sx_run 2 (todo' := [.inRegion (opsOf (cd22 [1, 1, 0])) [16, 17, 18, 19, 20, 21, 22, 23, 24, 25, 26, 27, 28, 29, 30, 31], .code (cd22 [1, 1, 1])]) (us := [(25, .bool t42), (26, .bool t42)]) (by kernel_rfl) ?_
      cases t42
      ·skip
       have hp47 := ite_f hp44 rfl
       refine sx_run 17 (todo' := [.code (cd22 [1, 1, 1])]) (us := [(27, undef), (28, undef), (29, undef), (30, undef), (31, undef), (32, .bool false), (33, .bool false), (34, undef), (35, undef), (36, undef), (37, undef), (38, undef), (39, undef), (40, undef), (41, .bool false), (2, .bool false)]) (by kernel_rfl) ?_
       have hS48 := hS46.drop
       have hS49 := hS48.drop
       refine runs_ret (fn := Tryd.f22) (v := .bool false) Tryd.func22 (by kernel_rfl) ?_
       have hr50 := (Option.some.inj hp47)
       cases hr50
       exact hR _ _ ⟨rfl, hS49⟩
      ·skip
       have hp51 := ite_t hp44 rfl
       obtain ⟨g52, hp53⟩ := ite_some hp51
       refine r_indexArr (c := (cd22 [1, 1, 0])) (i := 16) (d := (some 27)) (ty := 0) (t := 65) (e := 4) (sz := 1) (kk := .i64) (x := (.tmp 3)) (y := (.const (.int .i64 2))) (b := b11) (o' := 0) (n := 4) (j := (2 : Int)) (by kernel_rfl) (by kernel_rfl) (by kernel_rfl) (by kernel_rfl) (by kernel_rfl) (by kernel_rfl) g52.1 g52.2 ?_
       refine r_load (c := (cd22 [1, 1, 0])) (i := 17) (d := (some 28)) (ty := 4) (t := 4) (x := (.tmp 27)) (p := ⟨b11, 0 + (2 : Int).toNat * 1, none⟩) (v := .bool (vget t5 (2 : Int))) (by kernel_rfl) (by kernel_rfl) (by kernel_rfl) (loads_at 0 (cells_vget (hS46.blk 0 rfl) len_encB g52.1 g52.2) (by kernel_rfl) (by kernel_rfl)) ?_
       refine r_split (vget t5 (2 : Int)) (fun h54 => ?_) (fun h55 => ?_)
       ·skip
        have hp56 := ite_t hp53 h54
        refine sx_run 1 (todo' := [.inRegion (opsOf (cd22 [1, 1, 0])) [19, 20, 21, 22, 23, 24, 25, 26, 27, 28, 29, 30, 31], .code (cd22 [1, 1, 1])]) (us := [(29, .pointer (some ⟨b1, 3, none⟩))]) (by kernel_rfl) ?_
        refine r_load (c := (cd22 [1, 1, 0])) (i := 19) (d := (some 30)) (ty := 9) (t := 9) (x := (.tmp 29)) (p := ⟨b1, 3, none⟩) (v := .string a0.Loc) (by kernel_rfl) (by kernel_rfl) (by kernel_rfl) (loads_at 3 (hS46.blk 1 rfl) (by kernel_rfl) (by kernel_rfl)) ?_
        obtain ⟨t57, hr58, hp59⟩ := bind_some' hp56
        refine r_call1 (c := (cd22 [1, 1, 0])) (i := 20) (d := (some 31)) (g := 33) (args := #[.bool true, .string a0.Loc]) (by kernel_rfl) (by kernel_rfl) (by kernel_rfl) (by kernel_rfl) (weirref08_field.ok true a0.Loc hS46 hr58) ?_
        rintro _ w60 ⟨rfl, hS61⟩
        refine ⟨.bool t57, rfl, ?_⟩
        refine sx_run 2 (todo' := [.inRegion (opsOf (cd22 [1, 1, 0])) [23, 24, 25, 26, 27, 28, 29, 30, 31], .code (cd22 [1, 1, 1])]) (us := [(32, .bool t57), (33, .bool t57)]) (by kernel_rfl) ?_
        cases t57
        ·skip
         have hp62 := ite_f hp59 rfl
         refine sx_run 10 (todo' := [.code (cd22 [1, 1, 1])]) (us := [(34, undef), (35, undef), (36, undef), (37, undef), (38, undef), (39, undef), (40, undef), (41, .bool false), (2, .bool false)]) (by kernel_rfl) ?_
         have hS63 := hS61.drop
         have hS64 := hS63.drop
         refine runs_ret (fn := Tryd.f22) (v := .bool false) Tryd.func22 (by kernel_rfl) ?_
         have hr65 := (Option.some.inj hp62)
         cases hr65
         exact hR _ _ ⟨rfl, hS64⟩
        ·skip
         have hp66 := ite_t hp59 rfl
         obtain ⟨g67, hp68⟩ := ite_some hp66
         refine r_indexArr (c := (cd22 [1, 1, 0])) (i := 23) (d := (some 34)) (ty := 0) (t := 65) (e := 4) (sz := 1) (kk := .i64) (x := (.tmp 3)) (y := (.const (.int .i64 3))) (b := b11) (o' := 0) (n := 4) (j := (3 : Int)) (by kernel_rfl) (by kernel_rfl) (by kernel_rfl) (by kernel_rfl) (by kernel_rfl) (by kernel_rfl) g67.1 g67.2 ?_
         refine r_load (c := (cd22 [1, 1, 0])) (i := 24) (d := (some 35)) (ty := 4) (t := 4) (x := (.tmp 34)) (p := ⟨b11, 0 + (3 : Int).toNat * 1, none⟩) (v := .bool (vget t5 (3 : Int))) (by kernel_rfl) (by kernel_rfl) (by kernel_rfl) (loads_at 0 (cells_vget (hS61.blk 0 rfl) len_encB g67.1 g67.2) (by kernel_rfl) (by kernel_rfl)) ?_
         refine r_split (vget t5 (3 : Int)) (fun h69 => ?_) (fun h70 => ?_)
         ·skip
          have hp71 := ite_t hp68 h69
          refine sx_run 8 (todo' := [.code (cd22 [1, 1, 1])]) (us := [(36, .bool true), (37, undef), (38, undef), (39, undef), (40, .bool true), (41, .bool true), (2, .bool true)]) (by kernel_rfl) ?_
          have hS72 := hS61.drop
          have hS73 := hS72.drop
          refine runs_ret (fn := Tryd.f22) (v := .bool true) Tryd.func22 (by kernel_rfl) ?_
          have hr74 := (Option.some.inj hp71)
          cases hr74
          exact hR _ _ ⟨rfl, hS73⟩
         ·skip
          have hp75 := ite_f hp68 h70
          refine sx_run 2 (todo' := [.inRegion (opsOf (cd22 [1, 1, 0])) [27, 28, 29, 30, 31], .code (cd22 [1, 1, 1])]) (us := [(36, .bool false), (37, .pointer (some ⟨b1, 4, none⟩))]) (by kernel_rfl) ?_
          refine r_load (c := (cd22 [1, 1, 0])) (i := 27) (d := (some 38)) (ty := 2) (t := 2) (x := (.tmp 37)) (p := ⟨b1, 4, none⟩) (v := .int .i64 a0.Imm) (by kernel_rfl) (by kernel_rfl) (by kernel_rfl) (loads_at 4 (hS61.blk 1 rfl) (by kernel_rfl) (by kernel_rfl)) ?_
          refine sx_split 1 (todo' := [.inRegion (opsOf (cd22 [1, 1, 0])) [29, 30, 31], .code (cd22 [1, 1, 1])]) (us := []) (d := 39) (t := (a0.Imm == 0)) (by kernel_rfl) (fun h76 => ?_) (fun h77 => ?_)
          ·skip
           have hp78 := ite_t hp75 h76
           refine sx_run 4 (todo' := [.code (cd22 [1, 1, 1])]) (us := [(40, .bool true), (41, .bool true), (2, .bool true)]) (by kernel_rfl) ?_
           have hS79 := hS61.drop
           have hS80 := hS79.drop
           refine runs_ret (fn := Tryd.f22) (v := .bool true) Tryd.func22 (by kernel_rfl) ?_
           have hr81 := (Option.some.inj hp78)
           cases hr81
           exact hR _ _ ⟨rfl, hS80⟩
          ·skip
           have hp82 := ite_f hp75 h77
           refine sx_run 4 (todo' := [.code (cd22 [1, 1, 1])]) (us := [(40, .bool false), (41, .bool false), (2, .bool false)]) (by kernel_rfl) ?_
           have hS83 := hS61.drop
           have hS84 := hS83.drop
           refine runs_ret (fn := Tryd.f22) (v := .bool false) Tryd.func22 (by kernel_rfl) ?_
           have hr85 := (Option.some.inj hp82)
           cases hr85
           exact hR _ _ ⟨rfl, hS84⟩
       ·skip
        have hp86 := ite_f hp53 h55
        refine sx_run 1 (todo' := [.inRegion (opsOf (cd22 [1, 1, 0])) [19, 20, 21, 22, 23, 24, 25, 26, 27, 28, 29, 30, 31], .code (cd22 [1, 1, 1])]) (us := [(29, .pointer (some ⟨b1, 3, none⟩))]) (by kernel_rfl) ?_
        refine r_load (c := (cd22 [1, 1, 0])) (i := 19) (d := (some 30)) (ty := 9) (t := 9) (x := (.tmp 29)) (p := ⟨b1, 3, none⟩) (v := .string a0.Loc) (by kernel_rfl) (by kernel_rfl) (by kernel_rfl) (loads_at 3 (hS46.blk 1 rfl) (by kernel_rfl) (by kernel_rfl)) ?_
        obtain ⟨t87, hr88, hp89⟩ := bind_some' hp86
        refine r_call1 (c := (cd22 [1, 1, 0])) (i := 20) (d := (some 31)) (g := 33) (args := #[.bool false, .string a0.Loc]) (by kernel_rfl) (by kernel_rfl) (by kernel_rfl) (by kernel_rfl) (weirref08_field.ok false a0.Loc hS46 hr88) ?_
        rintro _ w90 ⟨rfl, hS91⟩
        refine ⟨.bool t87, rfl, ?_⟩
        refine sx_run 2 (todo' := [.inRegion (opsOf (cd22 [1, 1, 0])) [23, 24, 25, 26, 27, 28, 29, 30, 31], .code (cd22 [1, 1, 1])]) (us := [(32, .bool t87), (33, .bool t87)]) (by kernel_rfl) ?_
        cases t87
        ·skip
         have hp92 := ite_f hp89 rfl
         refine sx_run 10 (todo' := [.code (cd22 [1, 1, 1])]) (us := [(34, undef), (35, undef), (36, undef), (37, undef), (38, undef), (39, undef), (40, undef), (41, .bool false), (2, .bool false)]) (by kernel_rfl) ?_
         have hS93 := hS91.drop
         have hS94 := hS93.drop
         refine runs_ret (fn := Tryd.f22) (v := .bool false) Tryd.func22 (by kernel_rfl) ?_
         have hr95 := (Option.some.inj hp92)
         cases hr95
         exact hR _ _ ⟨rfl, hS94⟩
        ·skip
         have hp96 := ite_t hp89 rfl
         obtain ⟨g97, hp98⟩ := ite_some hp96
         refine r_indexArr (c := (cd22 [1, 1, 0])) (i := 23) (d := (some 34)) (ty := 0) (t := 65) (e := 4) (sz := 1) (kk := .i64) (x := (.tmp 3)) (y := (.const (.int .i64 3))) (b := b11) (o' := 0) (n := 4) (j := (3 : Int)) (by kernel_rfl) (by kernel_rfl) (by kernel_rfl) (by kernel_rfl) (by kernel_rfl) (by kernel_rfl) g97.1 g97.2 ?_
         refine r_load (c := (cd22 [1, 1, 0])) (i := 24) (d := (some 35)) (ty := 4) (t := 4) (x := (.tmp 34)) (p := ⟨b11, 0 + (3 : Int).toNat * 1, none⟩) (v := .bool (vget t5 (3 : Int))) (by kernel_rfl) (by kernel_rfl) (by kernel_rfl) (loads_at 0 (cells_vget (hS91.blk 0 rfl) len_encB g97.1 g97.2) (by kernel_rfl) (by kernel_rfl)) ?_
         refine r_split (vget t5 (3 : Int)) (fun h99 => ?_) (fun h100 => ?_)
         ·skip
          have hp101 := ite_t hp98 h99
          refine sx_run 8 (todo' := [.code (cd22 [1, 1, 1])]) (us := [(36, .bool true), (37, undef), (38, undef), (39, undef), (40, .bool true), (41, .bool true), (2, .bool true)]) (by kernel_rfl) ?_
          have hS102 := hS91.drop
          have hS103 := hS102.drop
          refine runs_ret (fn := Tryd.f22) (v := .bool true) Tryd.func22 (by kernel_rfl) ?_
          have hr104 := (Option.some.inj hp101)
          cases hr104
          exact hR _ _ ⟨rfl, hS103⟩
         ·skip
          have hp105 := ite_f hp98 h100
          refine sx_run 2 (todo' := [.inRegion (opsOf (cd22 [1, 1, 0])) [27, 28, 29, 30, 31], .code (cd22 [1, 1, 1])]) (us := [(36, .bool false), (37, .pointer (some ⟨b1, 4, none⟩))]) (by kernel_rfl) ?_
          refine r_load (c := (cd22 [1, 1, 0])) (i := 27) (d := (some 38)) (ty := 2) (t := 2) (x := (.tmp 37)) (p := ⟨b1, 4, none⟩) (v := .int .i64 a0.Imm) (by kernel_rfl) (by kernel_rfl) (by kernel_rfl) (loads_at 4 (hS91.blk 1 rfl) (by kernel_rfl) (by kernel_rfl)) ?_
          refine sx_split 1 (todo' := [.inRegion (opsOf (cd22 [1, 1, 0])) [29, 30, 31], .code (cd22 [1, 1, 1])]) (us := []) (d := 39) (t := (a0.Imm == 0)) (by kernel_rfl) (fun h106 => ?_) (fun h107 => ?_)
          ·skip
           have hp108 := ite_t hp105 h106
           refine sx_run 4 (todo' := [.code (cd22 [1, 1, 1])]) (us := [(40, .bool true), (41, .bool true), (2, .bool true)]) (by kernel_rfl) ?_
           have hS109 := hS91.drop
           have hS110 := hS109.drop
           refine runs_ret (fn := Tryd.f22) (v := .bool true) Tryd.func22 (by kernel_rfl) ?_
           have hr111 := (Option.some.inj hp108)
           cases hr111
           exact hR _ _ ⟨rfl, hS110⟩
          ·skip
           have hp112 := ite_f hp105 h107
           refine sx_run 4 (todo' := [.code (cd22 [1, 1, 1])]) (us := [(40, .bool false), (41, .bool false), (2, .bool false)]) (by kernel_rfl) ?_
           have hS113 := hS91.drop
           have hS114 := hS113.drop
           refine runs_ret (fn := Tryd.f22) (v := .bool false) Tryd.func22 (by kernel_rfl) ?_
           have hr115 := (Option.some.inj hp112)
           cases hr115
           exact hR _ _ ⟨rfl, hS114⟩
     ·skip
      have hp116 := ite_f hp38 h40
      refine sx_run 1 (todo' := [.inRegion (opsOf (cd22 [1, 1, 0])) [12, 13, 14, 15, 16, 17, 18, 19, 20, 21, 22, 23, 24, 25, 26, 27, 28, 29, 30, 31], .code (cd22 [1, 1, 1])]) (us := [(22, .pointer (some ⟨b1, 2, none⟩))]) (by kernel_rfl) ?_
      refine r_load (c := (cd22 [1, 1, 0])) (i := 12) (d := (some 23)) (ty := 9) (t := 9) (x := (.tmp 22)) (p := ⟨b1, 2, none⟩) (v := .string a0.Src) (by kernel_rfl) (by kernel_rfl) (by kernel_rfl) (loads_at 2 (hS31.blk 1 rfl) (by kernel_rfl) (by kernel_rfl)) ?_
      obtain ⟨t117, hr118, hp119⟩ := bind_some' hp116
      refine r_call1 (c := (cd22 [1, 1, 0])) (i := 13) (d := (some 24)) (g := 33) (args := #[.bool false, .string a0.Src]) (by kernel_rfl) (by kernel_rfl) (by kernel_rfl) (by kernel_rfl) (weirref08_field.ok false a0.Src hS31 hr118) ?_
      rintro _ w120 ⟨rfl, hS121⟩
      refine ⟨.bool t117, rfl, ?_⟩
      refine sx_run 2 (todo' := [.inRegion (opsOf (cd22 [1, 1, 0])) [16, 17, 18, 19, 20, 21, 22, 23, 24, 25, 26, 27, 28, 29, 30, 31], .code (cd22 [1, 1, 1])]) (us := [(25, .bool t117), (26, .bool t117)]) (by kernel_rfl) ?_
      cases t117
      ·skip
       have hp122 := ite_f hp119 rfl
       refine sx_run 17 (todo' := [.code (cd22 [1, 1, 1])]) (us := [(27, undef), (28, undef), (29, undef), (30, undef), (31, undef), (32, .bool false), (33, .bool false), (34, undef), (35, undef), (36, undef), (37, undef), (38, undef), (39, undef), (40, undef), (41, .bool false), (2, .bool false)]) (by kernel_rfl) ?_
       have hS123 := hS121.drop
       have hS124 := hS123.drop
       refine runs_ret (fn := Tryd.f22) (v := .bool false) Tryd.func22 (by kernel_rfl) ?_
       have hr125 := (Option.some.inj hp122)
       cases hr125
       exact hR _ _ ⟨rfl, hS124⟩
      ·skip
       have hp126 := ite_t hp119 rfl
       obtain ⟨g127, hp128⟩ := ite_some hp126
       refine r_indexArr (c := (cd22 [1, 1, 0])) (i := 16) (d := (some 27)) (ty := 0) (t := 65) (e := 4) (sz := 1) (kk := .i64) (x := (.tmp 3)) (y := (.const (.int .i64 2))) (b := b11) (o' := 0) (n := 4) (j := (2 : Int)) (by kernel_rfl) (by kernel_rfl) (by kernel_rfl) (by kernel_rfl) (by kernel_rfl) (by kernel_rfl) g127.1 g127.2 ?_
       refine r_load (c := (cd22 [1, 1, 0])) (i := 17) (d := (some 28)) (ty := 4) (t := 4) (x := (.tmp 27)) (p := ⟨b11, 0 + (2 : Int).toNat * 1, none⟩) (v := .bool (vget t5 (2 : Int))) (by kernel_rfl) (by kernel_rfl) (by kernel_rfl) (loads_at 0 (cells_vget (hS121.blk 0 rfl) len_encB g127.1 g127.2) (by kernel_rfl) (by kernel_rfl)) ?_
       refine r_split (vget t5 (2 : Int)) (fun h129 => ?_) (fun h130 => ?_)
       ·skip
        have hp131 := ite_t hp128 h129
        refine sx_run 1 (todo' := [.inRegion (opsOf (cd22 [1, 1, 0])) [19, 20, 21, 22, 23, 24, 25, 26, 27, 28, 29, 30, 31], .code (cd22 [1, 1, 1])]) (us := [(29, .pointer (some ⟨b1, 3, none⟩))]) (by kernel_rfl) ?_
        refine r_load (c := (cd22 [1, 1, 0])) (i := 19) (d := (some 30)) (ty := 9) (t := 9) (x := (.tmp 29)) (p := ⟨b1, 3, none⟩) (v := .string a0.Loc) (by kernel_rfl) (by kernel_rfl) (by kernel_rfl) (loads_at 3 (hS121.blk 1 rfl) (by kernel_rfl) (by kernel_rfl)) ?_
        obtain ⟨t132, hr133, hp134⟩ := bind_some' hp131
        refine r_call1 (c := (cd22 [1, 1, 0])) (i := 20) (d := (some 31)) (g := 33) (args := #[.bool true, .string a0.Loc]) (by kernel_rfl) (by kernel_rfl) (by kernel_rfl) (by kernel_rfl) (weirref08_field.ok true a0.Loc hS121 hr133) ?_
        rintro _ w135 ⟨rfl, hS136⟩
        refine ⟨.bool t132, rfl, ?_⟩
        refine sx_run 2 (todo' := [.inRegion (opsOf (cd22 [1, 1, 0])) [23, 24, 25, 26, 27, 28, 29, 30, 31], .code (cd22 [1, 1, 1])]) (us := [(32, .bool t132), (33, .bool t132)]) (by kernel_rfl) ?_
        cases t132
        ·skip
         have hp137 := ite_f hp134 rfl
         refine sx_run 10 (todo' := [.code (cd22 [1, 1, 1])]) (us := [(34, undef), (35, undef), (36, undef), (37, undef), (38, undef), (39, undef), (40, undef), (41, .bool false), (2, .bool false)]) (by kernel_rfl) ?_
         have hS138 := hS136.drop
         have hS139 := hS138.drop
         refine runs_ret (fn := Tryd.f22) (v := .bool false) Tryd.func22 (by kernel_rfl) ?_
         have hr140 := (Option.some.inj hp137)
         cases hr140
         exact hR _ _ ⟨rfl, hS139⟩
        ·skip
         have hp141 := ite_t hp134 rfl
         obtain ⟨g142, hp143⟩ := ite_some hp141
         refine r_indexArr (c := (cd22 [1, 1, 0])) (i := 23) (d := (some 34)) (ty := 0) (t := 65) (e := 4) (sz := 1) (kk := .i64) (x := (.tmp 3)) (y := (.const (.int .i64 3))) (b := b11) (o' := 0) (n := 4) (j := (3 : Int)) (by kernel_rfl) (by kernel_rfl) (by kernel_rfl) (by kernel_rfl) (by kernel_rfl) (by kernel_rfl) g142.1 g142.2 ?_
         refine r_load (c := (cd22 [1, 1, 0])) (i := 24) (d := (some 35)) (ty := 4) (t := 4) (x := (.tmp 34)) (p := ⟨b11, 0 + (3 : Int).toNat * 1, none⟩) (v := .bool (vget t5 (3 : Int))) (by kernel_rfl) (by kernel_rfl) (by kernel_rfl) (loads_at 0 (cells_vget (hS136.blk 0 rfl) len_encB g142.1 g142.2) (by kernel_rfl) (by kernel_rfl)) ?_
         refine r_split (vget t5 (3 : Int)) (fun h144 => ?_) (fun h145 => ?_)
         ·skip
          have hp146 := ite_t hp143 h144
          refine sx_run 8 (todo' := [.code (cd22 [1, 1, 1])]) (us := [(36, .bool true), (37, undef), (38, undef), (39, undef), (40, .bool true), (41, .bool true), (2, .bool true)]) (by kernel_rfl) ?_
          have hS147 := hS136.drop
          have hS148 := hS147.drop
          refine runs_ret (fn := Tryd.f22) (v := .bool true) Tryd.func22 (by kernel_rfl) ?_
          have hr149 := (Option.some.inj hp146)
          cases hr149
          exact hR _ _ ⟨rfl, hS148⟩
         ·skip
          have hp150 := ite_f hp143 h145
          refine sx_run 2 (todo' := [.inRegion (opsOf (cd22 [1, 1, 0])) [27, 28, 29, 30, 31], .code (cd22 [1, 1, 1])]) (us := [(36, .bool false), (37, .pointer (some ⟨b1, 4, none⟩))]) (by kernel_rfl) ?_
          refine r_load (c := (cd22 [1, 1, 0])) (i := 27) (d := (some 38)) (ty := 2) (t := 2) (x := (.tmp 37)) (p := ⟨b1, 4, none⟩) (v := .int .i64 a0.Imm) (by kernel_rfl) (by kernel_rfl) (by kernel_rfl) (loads_at 4 (hS136.blk 1 rfl) (by kernel_rfl) (by kernel_rfl)) ?_
          refine sx_split 1 (todo' := [.inRegion (opsOf (cd22 [1, 1, 0])) [29, 30, 31], .code (cd22 [1, 1, 1])]) (us := []) (d := 39) (t := (a0.Imm == 0)) (by kernel_rfl) (fun h151 => ?_) (fun h152 => ?_)
          ·skip
           have hp153 := ite_t hp150 h151
           refine sx_run 4 (todo' := [.code (cd22 [1, 1, 1])]) (us := [(40, .bool true), (41, .bool true), (2, .bool true)]) (by kernel_rfl) ?_
           have hS154 := hS136.drop
           have hS155 := hS154.drop
           refine runs_ret (fn := Tryd.f22) (v := .bool true) Tryd.func22 (by kernel_rfl) ?_
           have hr156 := (Option.some.inj hp153)
           cases hr156
           exact hR _ _ ⟨rfl, hS155⟩
          ·skip
           have hp157 := ite_f hp150 h152
           refine sx_run 4 (todo' := [.code (cd22 [1, 1, 1])]) (us := [(40, .bool false), (41, .bool false), (2, .bool false)]) (by kernel_rfl) ?_
           have hS158 := hS136.drop
           have hS159 := hS158.drop
           refine runs_ret (fn := Tryd.f22) (v := .bool false) Tryd.func22 (by kernel_rfl) ?_
           have hr160 := (Option.some.inj hp157)
           cases hr160
           exact hR _ _ ⟨rfl, hS159⟩
       ·skip
        have hp161 := ite_f hp128 h130
        refine sx_run 1 (todo' := [.inRegion (opsOf (cd22 [1, 1, 0])) [19, 20, 21, 22, 23, 24, 25, 26, 27, 28, 29, 30, 31], .code (cd22 [1, 1, 1])]) (us := [(29, .pointer (some ⟨b1, 3, none⟩))]) (by kernel_rfl) ?_
        refine r_load (c := (cd22 [1, 1, 0])) (i := 19) (d := (some 30)) (ty := 9) (t := 9) (x := (.tmp 29)) (p := ⟨b1, 3, none⟩) (v := .string a0.Loc) (by kernel_rfl) (by kernel_rfl) (by kernel_rfl) (loads_at 3 (hS121.blk 1 rfl) (by kernel_rfl) (by kernel_rfl)) ?_
        obtain ⟨t162, hr163, hp164⟩ := bind_some' hp161
        refine r_call1 (c := (cd22 [1, 1, 0])) (i := 20) (d := (some 31)) (g := 33) (args := #[.bool false, .string a0.Loc]) (by kernel_rfl) (by kernel_rfl) (by kernel_rfl) (by kernel_rfl) (weirref08_field.ok false a0.Loc hS121 hr163) ?_
        rintro _ w165 ⟨rfl, hS166⟩
        refine ⟨.bool t162, rfl, ?_⟩
        refine sx_run 2 (todo' := [.inRegion (opsOf (cd22 [1, 1, 0])) [23, 24, 25, 26, 27, 28, 29, 30, 31], .code (cd22 [1, 1, 1])]) (us := [(32, .bool t162), (33, .bool t162)]) (by kernel_rfl) ?_
        cases t162
        ·skip
         have hp167 := ite_f hp164 rfl
         refine sx_run 10 (todo' := [.code (cd22 [1, 1, 1])]) (us := [(34, undef), (35, undef), (36, undef), (37, undef), (38, undef), (39, undef), (40, undef), (41, .bool false), (2, .bool false)]) (by kernel_rfl) ?_
         have hS168 := hS166.drop
         have hS169 := hS168.drop
         refine runs_ret (fn := Tryd.f22) (v := .bool false) Tryd.func22 (by kernel_rfl) ?_
         have hr170 := (Option.some.inj hp167)
         cases hr170
         exact hR _ _ ⟨rfl, hS169⟩
        ·skip
         have hp171 := ite_t hp164 rfl
         obtain ⟨g172, hp173⟩ := ite_some hp171
         refine r_indexArr (c := (cd22 [1, 1, 0])) (i := 23) (d := (some 34)) (ty := 0) (t := 65) (e := 4) (sz := 1) (kk := .i64) (x := (.tmp 3)) (y := (.const (.int .i64 3))) (b := b11) (o' := 0) (n := 4) (j := (3 : Int)) (by kernel_rfl) (by kernel_rfl) (by kernel_rfl) (by kernel_rfl) (by kernel_rfl) (by kernel_rfl) g172.1 g172.2 ?_
         refine r_load (c := (cd22 [1, 1, 0])) (i := 24) (d := (some 35)) (ty := 4) (t := 4) (x := (.tmp 34)) (p := ⟨b11, 0 + (3 : Int).toNat * 1, none⟩) (v := .bool (vget t5 (3 : Int))) (by kernel_rfl) (by kernel_rfl) (by kernel_rfl) (loads_at 0 (cells_vget (hS166.blk 0 rfl) len_encB g172.1 g172.2) (by kernel_rfl) (by kernel_rfl)) ?_
         refine r_split (vget t5 (3 : Int)) (fun h174 => ?_) (fun h175 => ?_)
         ·skip
          have hp176 := ite_t hp173 h174
          refine sx_run 8 (todo' := [.code (cd22 [1, 1, 1])]) (us := [(36, .bool true), (37, undef), (38, undef), (39, undef), (40, .bool true), (41, .bool true), (2, .bool true)]) (by kernel_rfl) ?_
          have hS177 := hS166.drop
          have hS178 := hS177.drop
          refine runs_ret (fn := Tryd.f22) (v := .bool true) Tryd.func22 (by kernel_rfl) ?_
          have hr179 := (Option.some.inj hp176)
          cases hr179
          exact hR _ _ ⟨rfl, hS178⟩
         ·skip
          have hp180 := ite_f hp173 h175
          refine sx_run 2 (todo' := [.inRegion (opsOf (cd22 [1, 1, 0])) [27, 28, 29, 30, 31], .code (cd22 [1, 1, 1])]) (us := [(36, .bool false), (37, .pointer (some ⟨b1, 4, none⟩))]) (by kernel_rfl) ?_
          refine r_load (c := (cd22 [1, 1, 0])) (i := 27) (d := (some 38)) (ty := 2) (t := 2) (x := (.tmp 37)) (p := ⟨b1, 4, none⟩) (v := .int .i64 a0.Imm) (by kernel_rfl) (by kernel_rfl) (by kernel_rfl) (loads_at 4 (hS166.blk 1 rfl) (by kernel_rfl) (by kernel_rfl)) ?_
          refine sx_split 1 (todo' := [.inRegion (opsOf (cd22 [1, 1, 0])) [29, 30, 31], .code (cd22 [1, 1, 1])]) (us := []) (d := 39) (t := (a0.Imm == 0)) (by kernel_rfl) (fun h181 => ?_) (fun h182 => ?_)
          ·skip
           have hp183 := ite_t hp180 h181
           refine sx_run 4 (todo' := [.code (cd22 [1, 1, 1])]) (us := [(40, .bool true), (41, .bool true), (2, .bool true)]) (by kernel_rfl) ?_
           have hS184 := hS166.drop
           have hS185 := hS184.drop
           refine runs_ret (fn := Tryd.f22) (v := .bool true) Tryd.func22 (by kernel_rfl) ?_
           have hr186 := (Option.some.inj hp183)
           cases hr186
           exact hR _ _ ⟨rfl, hS185⟩
          ·skip
           have hp187 := ite_f hp180 h182
           refine sx_run 4 (todo' := [.code (cd22 [1, 1, 1])]) (us := [(40, .bool false), (41, .bool false), (2, .bool false)]) (by kernel_rfl) ?_
           have hS188 := hS166.drop
           have hS189 := hS188.drop
           refine runs_ret (fn := Tryd.f22) (v := .bool false) Tryd.func22 (by kernel_rfl) ?_
           have hr190 := (Option.some.inj hp187)
           cases hr190
           exact hR _ _ ⟨rfl, hS189⟩
   ·skip
    have hp191 := ite_f hp23 h25
    refine sx_run 1 (todo' := [.inRegion (opsOf (cd22 [1, 1, 0])) [5, 6, 7, 8, 9, 10, 11, 12, 13, 14, 15, 16, 17, 18, 19, 20, 21, 22, 23, 24, 25, 26, 27, 28, 29, 30, 31], .code (cd22 [1, 1, 1])]) (us := [(15, .pointer (some ⟨b1, 1, none⟩))]) (by kernel_rfl) ?_
    refine r_load (c := (cd22 [1, 1, 0])) (i := 5) (d := (some 16)) (ty := 9) (t := 9) (x := (.tmp 15)) (p := ⟨b1, 1, none⟩) (v := .string a0.Reg) (by kernel_rfl) (by kernel_rfl) (by kernel_rfl) (loads_at 1 (hS16.blk 1 rfl) (by kernel_rfl) (by kernel_rfl)) ?_
    obtain ⟨t192, hr193, hp194⟩ := bind_some' hp191
    refine r_call1 (c := (cd22 [1, 1, 0])) (i := 6) (d := (some 17)) (g := 33) (args := #[.bool false, .string a0.Reg]) (by kernel_rfl) (by kernel_rfl) (by kernel_rfl) (by kernel_rfl) (weirref08_field.ok false a0.Reg hS16 hr193) ?_
    rintro _ w195 ⟨rfl, hS196⟩
    refine ⟨.bool t192, rfl, ?_⟩
    refine sx_run 2 (todo' := [.inRegion (opsOf (cd22 [1, 1, 0])) [9, 10, 11, 12, 13, 14, 15, 16, 17, 18, 19, 20, 21, 22, 23, 24, 25, 26, 27, 28, 29, 30, 31], .code (cd22 [1, 1, 1])]) (us := [(18, .bool t192), (19, .bool t192)]) (by kernel_rfl) ?_
    cases t192
    ·skip
     have hp197 := ite_f hp194 rfl
     refine sx_run 24 (todo' := [.code (cd22 [1, 1, 1])]) (us := [(20, undef), (21, undef), (22, undef), (23, undef), (24, undef), (25, .bool false), (26, .bool false), (27, undef), (28, undef), (29, undef), (30, undef), (31, undef), (32, .bool false), (33, .bool false), (34, undef), (35, undef), (36, undef), (37, undef), (38, undef), (39, undef), (40, undef), (41, .bool false), (2, .bool false)]) (by kernel_rfl) ?_
     have hS198 := hS196.drop
     have hS199 := hS198.drop
     refine runs_ret (fn := Tryd.f22) (v := .bool false) Tryd.func22 (by kernel_rfl) ?_
     have hr200 := (Option.some.inj hp197)
     cases hr200
     exact hR _ _ ⟨rfl, hS199⟩
    ·skip
     have hp201 := ite_t hp194 rfl
     obtain ⟨g202, hp203⟩ := ite_some hp201
     refine r_indexArr (c := (cd22 [1, 1, 0])) (i := 9) (d := (some 20)) (ty := 0) (t := 65) (e := 4) (sz := 1) (kk := .i64) (x := (.tmp 3)) (y := (.const (.int .i64 1))) (b := b11) (o' := 0) (n := 4) (j := (1 : Int)) (by kernel_rfl) (by kernel_rfl) (by kernel_rfl) (by kernel_rfl) (by kernel_rfl) (by kernel_rfl) g202.1 g202.2 ?_
     refine r_load (c := (cd22 [1, 1, 0])) (i := 10) (d := (some 21)) (ty := 4) (t := 4) (x := (.tmp 20)) (p := ⟨b11, 0 + (1 : Int).toNat * 1, none⟩) (v := .bool (vget t5 (1 : Int))) (by kernel_rfl) (by kernel_rfl) (by kernel_rfl) (loads_at 0 (cells_vget (hS196.blk 0 rfl) len_encB g202.1 g202.2) (by kernel_rfl) (by kernel_rfl)) ?_
     refine r_split (vget t5 (1 : Int)) (fun h204 => ?_) (fun h205 => ?_)
     ·skip
      have hp206 := ite_t hp203 h204
      refine sx_run 1 (todo' := [.inRegion (opsOf (cd22 [1, 1, 0])) [12, 13, 14, 15, 16, 17, 18, 19, 20, 21, 22, 23, 24, 25, 26, 27, 28, 29, 30, 31], .code (cd22 [1, 1, 1])]) (us := [(22, .pointer (some ⟨b1, 2, none⟩))]) (by kernel_rfl) ?_
      refine r_load (c := (cd22 [1, 1, 0])) (i := 12) (d := (some 23)) (ty := 9) (t := 9) (x := (.tmp 22)) (p := ⟨b1, 2, none⟩) (v := .string a0.Src) (by kernel_rfl) (by kernel_rfl) (by kernel_rfl) (loads_at 2 (hS196.blk 1 rfl) (by kernel_rfl) (by kernel_rfl)) ?_
      obtain ⟨t207, hr208, hp209⟩ := bind_some' hp206
      refine r_call1 (c := (cd22 [1, 1, 0])) (i := 13) (d := (some 24)) (g := 33) (args := #[.bool true, .string a0.Src]) (by kernel_rfl) (by kernel_rfl) (by kernel_rfl) (by kernel_rfl) (weirref08_field.ok true a0.Src hS196 hr208) ?_
      rintro _ w210 ⟨rfl, hS211⟩
      refine ⟨.bool t207, rfl, ?_⟩
      refine sx_run 2 (todo' := [.inRegion (opsOf (cd22 [1, 1, 0])) [16, 17, 18, 19, 20, 21, 22, 23, 24, 25, 26, 27, 28, 29, 30, 31], .code (cd22 [1, 1, 1])]) (us := [(25, .bool t207), (26, .bool t207)]) (by kernel_rfl) ?_
      cases t207
      ·skip
       have hp212 := ite_f hp209 rfl
       refine sx_run 17 (todo' := [.code (cd22 [1, 1, 1])]) (us := [(27, undef), (28, undef), (29, undef), (30, undef), (31, undef), (32, .bool false), (33, .bool false), (34, undef), (35, undef), (36, undef), (37, undef), (38, undef), (39, undef), (40, undef), (41, .bool false), (2, .bool false)]) (by kernel_rfl) ?_
       have hS213 := hS211.drop
       have hS214 := hS213.drop
       refine runs_ret (fn := Tryd.f22) (v := .bool false) Tryd.func22 (by kernel_rfl) ?_
       have hr215 := (Option.some.inj hp212)
       cases hr215
       exact hR _ _ ⟨rfl, hS214⟩
      ·skip
       have hp216 := ite_t hp209 rfl
       obtain ⟨g217, hp218⟩ := ite_some hp216
       refine r_indexArr (c := (cd22 [1, 1, 0])) (i := 16) (d := (some 27)) (ty := 0) (t := 65) (e := 4) (sz := 1) (kk := .i64) (x := (.tmp 3)) (y := (.const (.int .i64 2))) (b := b11) (o' := 0) (n := 4) (j := (2 : Int)) (by kernel_rfl) (by kernel_rfl) (by kernel_rfl) (by kernel_rfl) (by kernel_rfl) (by kernel_rfl) g217.1 g217.2 ?_
       refine r_load (c := (cd22 [1, 1, 0])) (i := 17) (d := (some 28)) (ty := 4) (t := 4) (x := (.tmp 27)) (p := ⟨b11, 0 + (2 : Int).toNat * 1, none⟩) (v := .bool (vget t5 (2 : Int))) (by kernel_rfl) (by kernel_rfl) (by kernel_rfl) (loads_at 0 (cells_vget (hS211.blk 0 rfl) len_encB g217.1 g217.2) (by kernel_rfl) (by kernel_rfl)) ?_
       refine r_split (vget t5 (2 : Int)) (fun h219 => ?_) (fun h220 => ?_)
       ·skip
        have hp221 := ite_t hp218 h219
        refine sx_run 1 (todo' := [.inRegion (opsOf (cd22 [1, 1, 0])) [19, 20, 21, 22, 23, 24, 25, 26, 27, 28, 29, 30, 31], .code (cd22 [1, 1, 1])]) (us := [(29, .pointer (some ⟨b1, 3, none⟩))]) (by kernel_rfl) ?_
        refine r_load (c := (cd22 [1, 1, 0])) (i := 19) (d := (some 30)) (ty := 9) (t := 9) (x := (.tmp 29)) (p := ⟨b1, 3, none⟩) (v := .string a0.Loc) (by kernel_rfl) (by kernel_rfl) (by kernel_rfl) (loads_at 3 (hS211.blk 1 rfl) (by kernel_rfl) (by kernel_rfl)) ?_
        obtain ⟨t222, hr223, hp224⟩ := bind_some' hp221
        refine r_call1 (c := (cd22 [1, 1, 0])) (i := 20) (d := (some 31)) (g := 33) (args := #[.bool true, .string a0.Loc]) (by kernel_rfl) (by kernel_rfl) (by kernel_rfl) (by kernel_rfl) (weirref08_field.ok true a0.Loc hS211 hr223) ?_
        rintro _ w225 ⟨rfl, hS226⟩
        refine ⟨.bool t222, rfl, ?_⟩
        refine sx_run 2 (todo' := [.inRegion (opsOf (cd22 [1, 1, 0])) [23, 24, 25, 26, 27, 28, 29, 30, 31], .code (cd22 [1, 1, 1])]) (us := [(32, .bool t222), (33, .bool t222)]) (by kernel_rfl) ?_
        cases t222
        ·skip
         have hp227 := ite_f hp224 rfl
         refine sx_run 10 (todo' := [.code (cd22 [1, 1, 1])]) (us := [(34, undef), (35, undef), (36, undef), (37, undef), (38, undef), (39, undef), (40, undef), (41, .bool false), (2, .bool false)]) (by kernel_rfl) ?_
         have hS228 := hS226.drop
         have hS229 := hS228.drop
         refine runs_ret (fn := Tryd.f22) (v := .bool false) Tryd.func22 (by kernel_rfl) ?_
         have hr230 := (Option.some.inj hp227)
         cases hr230
         exact hR _ _ ⟨rfl, hS229⟩
        ·skip
         have hp231 := ite_t hp224 rfl
         obtain ⟨g232, hp233⟩ := ite_some hp231
         refine r_indexArr (c := (cd22 [1, 1, 0])) (i := 23) (d := (some 34)) (ty := 0) (t := 65) (e := 4) (sz := 1) (kk := .i64) (x := (.tmp 3)) (y := (.const (.int .i64 3))) (b := b11) (o' := 0) (n := 4) (j := (3 : Int)) (by kernel_rfl) (by kernel_rfl) (by kernel_rfl) (by kernel_rfl) (by kernel_rfl) (by kernel_rfl) g232.1 g232.2 ?_
         refine r_load (c := (cd22 [1, 1, 0])) (i := 24) (d := (some 35)) (ty := 4) (t := 4) (x := (.tmp 34)) (p := ⟨b11, 0 + (3 : Int).toNat * 1, none⟩) (v := .bool (vget t5 (3 : Int))) (by kernel_rfl) (by kernel_rfl) (by kernel_rfl) (loads_at 0 (cells_vget (hS226.blk 0 rfl) len_encB g232.1 g232.2) (by kernel_rfl) (by kernel_rfl)) ?_
         refine r_split (vget t5 (3 : Int)) (fun h234 => ?_) (fun h235 => ?_)
         ·skip
          have hp236 := ite_t hp233 h234
          refine sx_run 8 (todo' := [.code (cd22 [1, 1, 1])]) (us := [(36, .bool true), (37, undef), (38, undef), (39, undef), (40, .bool true), (41, .bool true), (2, .bool true)]) (by kernel_rfl) ?_
          have hS237 := hS226.drop
          have hS238 := hS237.drop
          refine runs_ret (fn := Tryd.f22) (v := .bool true) Tryd.func22 (by kernel_rfl) ?_
          have hr239 := (Option.some.inj hp236)
          cases hr239
          exact hR _ _ ⟨rfl, hS238⟩
         ·skip
          have hp240 := ite_f hp233 h235
          refine sx_run 2 (todo' := [.inRegion (opsOf (cd22 [1, 1, 0])) [27, 28, 29, 30, 31], .code (cd22 [1, 1, 1])]) (us := [(36, .bool false), (37, .pointer (some ⟨b1, 4, none⟩))]) (by kernel_rfl) ?_
          refine r_load (c := (cd22 [1, 1, 0])) (i := 27) (d := (some 38)) (ty := 2) (t := 2) (x := (.tmp 37)) (p := ⟨b1, 4, none⟩) (v := .int .i64 a0.Imm) (by kernel_rfl) (by kernel_rfl) (by kernel_rfl) (loads_at 4 (hS226.blk 1 rfl) (by kernel_rfl) (by kernel_rfl)) ?_
          refine sx_split 1 (todo' := [.inRegion (opsOf (cd22 [1, 1, 0])) [29, 30, 31], .code (cd22 [1, 1, 1])]) (us := []) (d := 39) (t := (a0.Imm == 0)) (by kernel_rfl) (fun h241 => ?_) (fun h242 => ?_)
          ·skip
           have hp243 := ite_t hp240 h241
           refine sx_run 4 (todo' := [.code (cd22 [1, 1, 1])]) (us := [(40, .bool true), (41, .bool true), (2, .bool true)]) (by kernel_rfl) ?_
           have hS244 := hS226.drop
           have hS245 := hS244.drop
           refine runs_ret (fn := Tryd.f22) (v := .bool true) Tryd.func22 (by kernel_rfl) ?_
           have hr246 := (Option.some.inj hp243)
           cases hr246
           exact hR _ _ ⟨rfl, hS245⟩
          ·skip
           have hp247 := ite_f hp240 h242
           refine sx_run 4 (todo' := [.code (cd22 [1, 1, 1])]) (us := [(40, .bool false), (41, .bool false), (2, .bool false)]) (by kernel_rfl) ?_
           have hS248 := hS226.drop
           have hS249 := hS248.drop
           refine runs_ret (fn := Tryd.f22) (v := .bool false) Tryd.func22 (by kernel_rfl) ?_
           have hr250 := (Option.some.inj hp247)
           cases hr250
           exact hR _ _ ⟨rfl, hS249⟩
       ·skip
        have hp251 := ite_f hp218 h220
        refine sx_run 1 (todo' := [.inRegion (opsOf (cd22 [1, 1, 0])) [19, 20, 21, 22, 23, 24, 25, 26, 27, 28, 29, 30, 31], .code (cd22 [1, 1, 1])]) (us := [(29, .pointer (some ⟨b1, 3, none⟩))]) (by kernel_rfl) ?_
        refine r_load (c := (cd22 [1, 1, 0])) (i := 19) (d := (some 30)) (ty := 9) (t := 9) (x := (.tmp 29)) (p := ⟨b1, 3, none⟩) (v := .string a0.Loc) (by kernel_rfl) (by kernel_rfl) (by kernel_rfl) (loads_at 3 (hS211.blk 1 rfl) (by kernel_rfl) (by kernel_rfl)) ?_
        obtain ⟨t252, hr253, hp254⟩ := bind_some' hp251
        refine r_call1 (c := (cd22 [1, 1, 0])) (i := 20) (d := (some 31)) (g := 33) (args := #[.bool false, .string a0.Loc]) (by kernel_rfl) (by kernel_rfl) (by kernel_rfl) (by kernel_rfl) (weirref08_field.ok false a0.Loc hS211 hr253) ?_
        rintro _ w255 ⟨rfl, hS256⟩
        refine ⟨.bool t252, rfl, ?_⟩
        refine sx_run 2 (todo' := [.inRegion (opsOf (cd22 [1, 1, 0])) [23, 24, 25, 26, 27, 28, 29, 30, 31], .code (cd22 [1, 1, 1])]) (us := [(32, .bool t252), (33, .bool t252)]) (by kernel_rfl) ?_
        cases t252
        ·skip
         have hp257 := ite_f hp254 rfl
         refine sx_run 10 (todo' := [.code (cd22 [1, 1, 1])]) (us := [(34, undef), (35, undef), (36, undef), (37, undef), (38, undef), (39, undef), (40, undef), (41, .bool false), (2, .bool false)]) (by kernel_rfl) ?_
         have hS258 := hS256.drop
         have hS259 := hS258.drop
         refine runs_ret (fn := Tryd.f22) (v := .bool false) Tryd.func22 (by kernel_rfl) ?_
         have hr260 := (Option.some.inj hp257)
         cases hr260
         exact hR _ _ ⟨rfl, hS259⟩
        ·skip
         have hp261 := ite_t hp254 rfl
         obtain ⟨g262, hp263⟩ := ite_some hp261
         refine r_indexArr (c := (cd22 [1, 1, 0])) (i := 23) (d := (some 34)) (ty := 0) (t := 65) (e := 4) (sz := 1) (kk := .i64) (x := (.tmp 3)) (y := (.const (.int .i64 3))) (b := b11) (o' := 0) (n := 4) (j := (3 : Int)) (by kernel_rfl) (by kernel_rfl) (by kernel_rfl) (by kernel_rfl) (by kernel_rfl) (by kernel_rfl) g262.1 g262.2 ?_
         refine r_load (c := (cd22 [1, 1, 0])) (i := 24) (d := (some 35)) (ty := 4) (t := 4) (x := (.tmp 34)) (p := ⟨b11, 0 + (3 : Int).toNat * 1, none⟩) (v := .bool (vget t5 (3 : Int))) (by kernel_rfl) (by kernel_rfl) (by kernel_rfl) (loads_at 0 (cells_vget (hS256.blk 0 rfl) len_encB g262.1 g262.2) (by kernel_rfl) (by kernel_rfl)) ?_
         refine r_split (vget t5 (3 : Int)) (fun h264 => ?_) (fun h265 => ?_)
         ·skip
          have hp266 := ite_t hp263 h264
          refine sx_run 8 (todo' := [.code (cd22 [1, 1, 1])]) (us := [(36, .bool true), (37, undef), (38, undef), (39, undef), (40, .bool true), (41, .bool true), (2, .bool true)]) (by kernel_rfl) ?_
          have hS267 := hS256.drop
          have hS268 := hS267.drop
          refine runs_ret (fn := Tryd.f22) (v := .bool true) Tryd.func22 (by kernel_rfl) ?_
          have hr269 := (Option.some.inj hp266)
          cases hr269
          exact hR _ _ ⟨rfl, hS268⟩
         ·skip
          have hp270 := ite_f hp263 h265
          refine sx_run 2 (todo' := [.inRegion (opsOf (cd22 [1, 1, 0])) [27, 28, 29, 30, 31], .code (cd22 [1, 1, 1])]) (us := [(36, .bool false), (37, .pointer (some ⟨b1, 4, none⟩))]) (by kernel_rfl) ?_
          refine r_load (c := (cd22 [1, 1, 0])) (i := 27) (d := (some 38)) (ty := 2) (t := 2) (x := (.tmp 37)) (p := ⟨b1, 4, none⟩) (v := .int .i64 a0.Imm) (by kernel_rfl) (by kernel_rfl) (by kernel_rfl) (loads_at 4 (hS256.blk 1 rfl) (by kernel_rfl) (by kernel_rfl)) ?_
          refine sx_split 1 (todo' := [.inRegion (opsOf (cd22 [1, 1, 0])) [29, 30, 31], .code (cd22 [1, 1, 1])]) (us := []) (d := 39) (t := (a0.Imm == 0)) (by kernel_rfl) (fun h271 => ?_) (fun h272 => ?_)
          ·skip
           have hp273 := ite_t hp270 h271
           refine sx_run 4 (todo' := [.code (cd22 [1, 1, 1])]) (us := [(40, .bool true), (41, .bool true), (2, .bool true)]) (by kernel_rfl) ?_
           have hS274 := hS256.drop
           have hS275 := hS274.drop
           refine runs_ret (fn := Tryd.f22) (v := .bool true) Tryd.func22 (by kernel_rfl) ?_
           have hr276 := (Option.some.inj hp273)
           cases hr276
           exact hR _ _ ⟨rfl, hS275⟩
          ·skip
           have hp277 := ite_f hp270 h272
           refine sx_run 4 (todo' := [.code (cd22 [1, 1, 1])]) (us := [(40, .bool false), (41, .bool false), (2, .bool false)]) (by kernel_rfl) ?_
           have hS278 := hS256.drop
           have hS279 := hS278.drop
           refine runs_ret (fn := Tryd.f22) (v := .bool false) Tryd.func22 (by kernel_rfl) ?_
           have hr280 := (Option.some.inj hp277)
           cases hr280
           exact hR _ _ ⟨rfl, hS279⟩
     ·skip
      have hp281 := ite_f hp203 h205
      refine sx_run 1 (todo' := [.inRegion (opsOf (cd22 [1, 1, 0])) [12, 13, 14, 15, 16, 17, 18, 19, 20, 21, 22, 23, 24, 25, 26, 27, 28, 29, 30, 31], .code (cd22 [1, 1, 1])]) (us := [(22, .pointer (some ⟨b1, 2, none⟩))]) (by kernel_rfl) ?_
      refine r_load (c := (cd22 [1, 1, 0])) (i := 12) (d := (some 23)) (ty := 9) (t := 9) (x := (.tmp 22)) (p := ⟨b1, 2, none⟩) (v := .string a0.Src) (by kernel_rfl) (by kernel_rfl) (by kernel_rfl) (loads_at 2 (hS196.blk 1 rfl) (by kernel_rfl) (by kernel_rfl)) ?_
      obtain ⟨t282, hr283, hp284⟩ := bind_some' hp281
      refine r_call1 (c := (cd22 [1, 1, 0])) (i := 13) (d := (some 24)) (g := 33) (args := #[.bool false, .string a0.Src]) (by kernel_rfl) (by kernel_rfl) (by kernel_rfl) (by kernel_rfl) (weirref08_field.ok false a0.Src hS196 hr283) ?_
      rintro _ w285 ⟨rfl, hS286⟩
      refine ⟨.bool t282, rfl, ?_⟩
      refine sx_run 2 (todo' := [.inRegion (opsOf (cd22 [1, 1, 0])) [16, 17, 18, 19, 20, 21, 22, 23, 24, 25, 26, 27, 28, 29, 30, 31], .code (cd22 [1, 1, 1])]) (us := [(25, .bool t282), (26, .bool t282)]) (by kernel_rfl) ?_
      cases t282
      ·skip
       have hp287 := ite_f hp284 rfl
       refine sx_run 17 (todo' := [.code (cd22 [1, 1, 1])]) (us := [(27, undef), (28, undef), (29, undef), (30, undef), (31, undef), (32, .bool false), (33, .bool false), (34, undef), (35, undef), (36, undef), (37, undef), (38, undef), (39, undef), (40, undef), (41, .bool false), (2, .bool false)]) (by kernel_rfl) ?_
       have hS288 := hS286.drop
       have hS289 := hS288.drop
       refine runs_ret (fn := Tryd.f22) (v := .bool false) Tryd.func22 (by kernel_rfl) ?_
       have hr290 := (Option.some.inj hp287)
       cases hr290
       exact hR _ _ ⟨rfl, hS289⟩
      ·skip
       have hp291 := ite_t hp284 rfl
       obtain ⟨g292, hp293⟩ := ite_some hp291
       refine r_indexArr (c := (cd22 [1, 1, 0])) (i := 16) (d := (some 27)) (ty := 0) (t := 65) (e := 4) (sz := 1) (kk := .i64) (x := (.tmp 3)) (y := (.const (.int .i64 2))) (b := b11) (o' := 0) (n := 4) (j := (2 : Int)) (by kernel_rfl) (by kernel_rfl) (by kernel_rfl) (by kernel_rfl) (by kernel_rfl) (by kernel_rfl) g292.1 g292.2 ?_
       refine r_load (c := (cd22 [1, 1, 0])) (i := 17) (d := (some 28)) (ty := 4) (t := 4) (x := (.tmp 27)) (p := ⟨b11, 0 + (2 : Int).toNat * 1, none⟩) (v := .bool (vget t5 (2 : Int))) (by kernel_rfl) (by kernel_rfl) (by kernel_rfl) (loads_at 0 (cells_vget (hS286.blk 0 rfl) len_encB g292.1 g292.2) (by kernel_rfl) (by kernel_rfl)) ?_
       refine r_split (vget t5 (2 : Int)) (fun h294 => ?_) (fun h295 => ?_)
       ·skip
        have hp296 := ite_t hp293 h294
        refine sx_run 1 (todo' := [.inRegion (opsOf (cd22 [1, 1, 0])) [19, 20, 21, 22, 23, 24, 25, 26, 27, 28, 29, 30, 31], .code (cd22 [1, 1, 1])]) (us := [(29, .pointer (some ⟨b1, 3, none⟩))]) (by kernel_rfl) ?_
        refine r_load (c := (cd22 [1, 1, 0])) (i := 19) (d := (some 30)) (ty := 9) (t := 9) (x := (.tmp 29)) (p := ⟨b1, 3, none⟩) (v := .string a0.Loc) (by kernel_rfl) (by kernel_rfl) (by kernel_rfl) (loads_at 3 (hS286.blk 1 rfl) (by kernel_rfl) (by kernel_rfl)) ?_
        obtain ⟨t297, hr298, hp299⟩ := bind_some' hp296
        refine r_call1 (c := (cd22 [1, 1, 0])) (i := 20) (d := (some 31)) (g := 33) (args := #[.bool true, .string a0.Loc]) (by kernel_rfl) (by kernel_rfl) (by kernel_rfl) (by kernel_rfl) (weirref08_field.ok true a0.Loc hS286 hr298) ?_
        rintro _ w300 ⟨rfl, hS301⟩
        refine ⟨.bool t297, rfl, ?_⟩
        refine sx_run 2 (todo' := [.inRegion (opsOf (cd22 [1, 1, 0])) [23, 24, 25, 26, 27, 28, 29, 30, 31], .code (cd22 [1, 1, 1])]) (us := [(32, .bool t297), (33, .bool t297)]) (by kernel_rfl) ?_
        cases t297
        ·skip
         have hp302 := ite_f hp299 rfl
         refine sx_run 10 (todo' := [.code (cd22 [1, 1, 1])]) (us := [(34, undef), (35, undef), (36, undef), (37, undef), (38, undef), (39, undef), (40, undef), (41, .bool false), (2, .bool false)]) (by kernel_rfl) ?_
         have hS303 := hS301.drop
         have hS304 := hS303.drop
         refine runs_ret (fn := Tryd.f22) (v := .bool false) Tryd.func22 (by kernel_rfl) ?_
         have hr305 := (Option.some.inj hp302)
         cases hr305
         exact hR _ _ ⟨rfl, hS304⟩
        ·skip
         have hp306 := ite_t hp299 rfl
         obtain ⟨g307, hp308⟩ := ite_some hp306
         refine r_indexArr (c := (cd22 [1, 1, 0])) (i := 23) (d := (some 34)) (ty := 0) (t := 65) (e := 4) (sz := 1) (kk := .i64) (x := (.tmp 3)) (y := (.const (.int .i64 3))) (b := b11) (o' := 0) (n := 4) (j := (3 : Int)) (by kernel_rfl) (by kernel_rfl) (by kernel_rfl) (by kernel_rfl) (by kernel_rfl) (by kernel_rfl) g307.1 g307.2 ?_
         refine r_load (c := (cd22 [1, 1, 0])) (i := 24) (d := (some 35)) (ty := 4) (t := 4) (x := (.tmp 34)) (p := ⟨b11, 0 + (3 : Int).toNat * 1, none⟩) (v := .bool (vget t5 (3 : Int))) (by kernel_rfl) (by kernel_rfl) (by kernel_rfl) (loads_at 0 (cells_vget (hS301.blk 0 rfl) len_encB g307.1 g307.2) (by kernel_rfl) (by kernel_rfl)) ?_
         refine r_split (vget t5 (3 : Int)) (fun h309 => ?_) (fun h310 => ?_)
         ·skip
          have hp311 := ite_t hp308 h309
          refine sx_run 8 (todo' := [.code (cd22 [1, 1, 1])]) (us := [(36, .bool true), (37, undef), (38, undef), (39, undef), (40, .bool true), (41, .bool true), (2, .bool true)]) (by kernel_rfl) ?_
          have hS312 := hS301.drop
          have hS313 := hS312.drop
          refine runs_ret (fn := Tryd.f22) (v := .bool true) Tryd.func22 (by kernel_rfl) ?_
          have hr314 := (Option.some.inj hp311)
          cases hr314
          exact hR _ _ ⟨rfl, hS313⟩
         ·skip
          have hp315 := ite_f hp308 h310
          refine sx_run 2 (todo' := [.inRegion (opsOf (cd22 [1, 1, 0])) [27, 28, 29, 30, 31], .code (cd22 [1, 1, 1])]) (us := [(36, .bool false), (37, .pointer (some ⟨b1, 4, none⟩))]) (by kernel_rfl) ?_
          refine r_load (c := (cd22 [1, 1, 0])) (i := 27) (d := (some 38)) (ty := 2) (t := 2) (x := (.tmp 37)) (p := ⟨b1, 4, none⟩) (v := .int .i64 a0.Imm) (by kernel_rfl) (by kernel_rfl) (by kernel_rfl) (loads_at 4 (hS301.blk 1 rfl) (by kernel_rfl) (by kernel_rfl)) ?_
          refine sx_split 1 (todo' := [.inRegion (opsOf (cd22 [1, 1, 0])) [29, 30, 31], .code (cd22 [1, 1, 1])]) (us := []) (d := 39) (t := (a0.Imm == 0)) (by kernel_rfl) (fun h316 => ?_) (fun h317 => ?_)
          ·skip
           have hp318 := ite_t hp315 h316
           refine sx_run 4 (todo' := [.code (cd22 [1, 1, 1])]) (us := [(40, .bool true), (41, .bool true), (2, .bool true)]) (by kernel_rfl) ?_
           have hS319 := hS301.drop
           have hS320 := hS319.drop
           refine runs_ret (fn := Tryd.f22) (v := .bool true) Tryd.func22 (by kernel_rfl) ?_
           have hr321 := (Option.some.inj hp318)
           cases hr321
           exact hR _ _ ⟨rfl, hS320⟩
          ·skip
           have hp322 := ite_f hp315 h317
           refine sx_run 4 (todo' := [.code (cd22 [1, 1, 1])]) (us := [(40, .bool false), (41, .bool false), (2, .bool false)]) (by kernel_rfl) ?_
           have hS323 := hS301.drop
           have hS324 := hS323.drop
           refine runs_ret (fn := Tryd.f22) (v := .bool false) Tryd.func22 (by kernel_rfl) ?_
           have hr325 := (Option.some.inj hp322)
           cases hr325
           exact hR _ _ ⟨rfl, hS324⟩
       ·skip
        have hp326 := ite_f hp293 h295
        refine sx_run 1 (todo' := [.inRegion (opsOf (cd22 [1, 1, 0])) [19, 20, 21, 22, 23, 24, 25, 26, 27, 28, 29, 30, 31], .code (cd22 [1, 1, 1])]) (us := [(29, .pointer (some ⟨b1, 3, none⟩))]) (by kernel_rfl) ?_
        refine r_load (c := (cd22 [1, 1, 0])) (i := 19) (d := (some 30)) (ty := 9) (t := 9) (x := (.tmp 29)) (p := ⟨b1, 3, none⟩) (v := .string a0.Loc) (by kernel_rfl) (by kernel_rfl) (by kernel_rfl) (loads_at 3 (hS286.blk 1 rfl) (by kernel_rfl) (by kernel_rfl)) ?_
        obtain ⟨t327, hr328, hp329⟩ := bind_some' hp326
        refine r_call1 (c := (cd22 [1, 1, 0])) (i := 20) (d := (some 31)) (g := 33) (args := #[.bool false, .string a0.Loc]) (by kernel_rfl) (by kernel_rfl) (by kernel_rfl) (by kernel_rfl) (weirref08_field.ok false a0.Loc hS286 hr328) ?_
        rintro _ w330 ⟨rfl, hS331⟩
        refine ⟨.bool t327, rfl, ?_⟩
        refine sx_run 2 (todo' := [.inRegion (opsOf (cd22 [1, 1, 0])) [23, 24, 25, 26, 27, 28, 29, 30, 31], .code (cd22 [1, 1, 1])]) (us := [(32, .bool t327), (33, .bool t327)]) (by kernel_rfl) ?_
        cases t327
        ·skip
         have hp332 := ite_f hp329 rfl
         refine sx_run 10 (todo' := [.code (cd22 [1, 1, 1])]) (us := [(34, undef), (35, undef), (36, undef), (37, undef), (38, undef), (39, undef), (40, undef), (41, .bool false), (2, .bool false)]) (by kernel_rfl) ?_
         have hS333 := hS331.drop
         have hS334 := hS333.drop
         refine runs_ret (fn := Tryd.f22) (v := .bool false) Tryd.func22 (by kernel_rfl) ?_
         have hr335 := (Option.some.inj hp332)
         cases hr335
         exact hR _ _ ⟨rfl, hS334⟩
        ·skip
         have hp336 := ite_t hp329 rfl
         obtain ⟨g337, hp338⟩ := ite_some hp336
         refine r_indexArr (c := (cd22 [1, 1, 0])) (i := 23) (d := (some 34)) (ty := 0) (t := 65) (e := 4) (sz := 1) (kk := .i64) (x := (.tmp 3)) (y := (.const (.int .i64 3))) (b := b11) (o' := 0) (n := 4) (j := (3 : Int)) (by kernel_rfl) (by kernel_rfl) (by kernel_rfl) (by kernel_rfl) (by kernel_rfl) (by kernel_rfl) g337.1 g337.2 ?_
         refine r_load (c := (cd22 [1, 1, 0])) (i := 24) (d := (some 35)) (ty := 4) (t := 4) (x := (.tmp 34)) (p := ⟨b11, 0 + (3 : Int).toNat * 1, none⟩) (v := .bool (vget t5 (3 : Int))) (by kernel_rfl) (by kernel_rfl) (by kernel_rfl) (loads_at 0 (cells_vget (hS331.blk 0 rfl) len_encB g337.1 g337.2) (by kernel_rfl) (by kernel_rfl)) ?_
         refine r_split (vget t5 (3 : Int)) (fun h339 => ?_) (fun h340 => ?_)
         ·skip
          have hp341 := ite_t hp338 h339
          refine sx_run 8 (todo' := [.code (cd22 [1, 1, 1])]) (us := [(36, .bool true), (37, undef), (38, undef), (39, undef), (40, .bool true), (41, .bool true), (2, .bool true)]) (by kernel_rfl) ?_
          have hS342 := hS331.drop
          have hS343 := hS342.drop
          refine runs_ret (fn := Tryd.f22) (v := .bool true) Tryd.func22 (by kernel_rfl) ?_
          have hr344 := (Option.some.inj hp341)
          cases hr344
          exact hR _ _ ⟨rfl, hS343⟩
         ·skip
          have hp345 := ite_f hp338 h340
          refine sx_run 2 (todo' := [.inRegion (opsOf (cd22 [1, 1, 0])) [27, 28, 29, 30, 31], .code (cd22 [1, 1, 1])]) (us := [(36, .bool false), (37, .pointer (some ⟨b1, 4, none⟩))]) (by kernel_rfl) ?_
          refine r_load (c := (cd22 [1, 1, 0])) (i := 27) (d := (some 38)) (ty := 2) (t := 2) (x := (.tmp 37)) (p := ⟨b1, 4, none⟩) (v := .int .i64 a0.Imm) (by kernel_rfl) (by kernel_rfl) (by kernel_rfl) (loads_at 4 (hS331.blk 1 rfl) (by kernel_rfl) (by kernel_rfl)) ?_
          refine sx_split 1 (todo' := [.inRegion (opsOf (cd22 [1, 1, 0])) [29, 30, 31], .code (cd22 [1, 1, 1])]) (us := []) (d := 39) (t := (a0.Imm == 0)) (by kernel_rfl) (fun h346 => ?_) (fun h347 => ?_)
          ·skip
           have hp348 := ite_t hp345 h346
           refine sx_run 4 (todo' := [.code (cd22 [1, 1, 1])]) (us := [(40, .bool true), (41, .bool true), (2, .bool true)]) (by kernel_rfl) ?_
           have hS349 := hS331.drop
           have hS350 := hS349.drop
           refine runs_ret (fn := Tryd.f22) (v := .bool true) Tryd.func22 (by kernel_rfl) ?_
           have hr351 := (Option.some.inj hp348)
           cases hr351
           exact hR _ _ ⟨rfl, hS350⟩
          ·skip
           have hp352 := ite_f hp345 h347
           refine sx_run 4 (todo' := [.code (cd22 [1, 1, 1])]) (us := [(40, .bool false), (41, .bool false), (2, .bool false)]) (by kernel_rfl) ?_
           have hS353 := hS331.drop
           have hS354 := hS353.drop
           refine runs_ret (fn := Tryd.f22) (v := .bool false) Tryd.func22 (by kernel_rfl) ?_
           have hr355 := (Option.some.inj hp352)
           cases hr355
           exact hR _ _ ⟨rfl, hS354⟩

end
end Go.Proofs.YtmgjnplkpmcleaaDoor.K
