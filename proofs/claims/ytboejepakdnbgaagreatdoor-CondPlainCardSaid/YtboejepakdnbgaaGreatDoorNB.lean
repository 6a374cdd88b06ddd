/- A strings.Builder in a block of its own, with its row of bytes: one object; what its methods do to it. -/
import Derived.Test.YtboejepakdnbgaaGreatDoorN9
import Derived.Lib.Builder
import Derived.Lib.AppendStr
import Derived.Lib.UnsafeStr
import Derived.Laws.Externs
import Derived.Shelf.RegionOpenPlain
import Derived.WalkKit
import Derived.Test.YtboejepakdnbgaaGreatDoorProg
set_option linter.unusedVariables false
set_option linter.unusedSimpArgs false
set_option maxRecDepth 100000
namespace Go.Proofs.YtboejepakdnbgaaGreatDoor.K
open Go Go.RowKit

abbrev bcells (s : ByteArray) : List Value := (strBytes s).flatMap (encI .u8)
def Bk (A : Option Addr) (cp : Nat) : Prop := A = none ∨ 0 < cp ∧ ∃ g, A = some ⟨g, 0, none⟩
def xbld (b : Nat) (x0 : Value) (A : Option Addr) (cp : Nat) (s : ByteArray) : XObj where
  own := fun k => k = b ∨ (xrow A cp 5 1 (bcells s)).own k
  keeps := fun _ _ => False
  holds := fun w => (∃ p : Option Addr, (p = none ∨ p = some ⟨b, 1, none⟩) ∧ Blk w b 93 [x0, .pointer p, .slice A (strBytes s).length cp]) ∧ (xrow A cp 5 1 (bcells s)).holds w ∧ ¬ (xrow A cp 5 1 (bcells s)).own b ∧ Bk A cp
  stable := by
    rintro w w' hb ⟨⟨p, hp, h1⟩, h2, h3⟩
    exact ⟨⟨p, hp, (hb b (.inl rfl)).trans h1⟩, (xrow A cp 5 1 (bcells s)).stable (fun k hk => hb k (.inr hk)) h2, h3⟩
  there := by
    rintro w k ⟨⟨p, hp, h1⟩, h2, h3⟩ (rfl | hk)
    · exact Blk.lt h1
    · exact (xrow A cp 5 1 (bcells s)).there h2 hk
section
variable {w0 w w' : World} {Z : Zm} {xs : List XObj} {b cp : Nat} {x0 : Value} {A : Option Addr} {s t : ByteArray}
theorem St.openB (h : St w0 Z (xbld b x0 A cp s :: xs) w) : ∃ p : Option Addr, (p = none ∨ p = some ⟨b, 1, none⟩) ∧ St w0 Z (xblk b 93 [x0, .pointer p, .slice A (strBytes s).length cp] :: xrow A cp 5 1 (bcells s) :: xs) w ∧ Bk A cp := by
  obtain ⟨⟨p, hp, h1⟩, h2, h3, h4⟩ := h.hd
  have hap := List.pairwise_cons.1 h.ap
  have hx := h.zx (xbld b x0 A cp s) (by simp)
  have hy := h.zy (xbld b x0 A cp s) (by simp)
  have hn := h.new (xbld b x0 A cp s) (by simp)
  refine ⟨p, hp, ⟨h.fr, h.dr, h.zc, h.zb, ?_, ?_, ?_, ?_, ?_⟩, h4⟩
  · intro Y hY
    rcases List.mem_cons.1 hY with rfl | hY
    · exact h1
    rcases List.mem_cons.1 hY with rfl | hY
    · exact h2
    · exact h.ob Y (by simp [hY])
  · intro Y hY k hk
    rcases List.mem_cons.1 hY with rfl | hY
    · exact hn k (.inl hk)
    rcases List.mem_cons.1 hY with rfl | hY
    · exact hn k (.inr hk)
    · exact h.new Y (by simp [hY]) k hk
  · refine List.pairwise_cons.2 ⟨fun Y hY k hk hY' => ?_, List.pairwise_cons.2 ⟨fun Y hY k hk hY' => hap.1 Y hY k (.inr hk) hY', hap.2⟩⟩
    rcases List.mem_cons.1 hY with rfl | hY
    · exact h3 (by rw [show k = b from hk] at hY'; exact hY')
    · exact hap.1 Y hY k (.inl hk) hY'
  · intro Y hY k o v hz hk
    rcases List.mem_cons.1 hY with rfl | hY
    · exact hx k o v hz (.inl hk)
    rcases List.mem_cons.1 hY with rfl | hY
    · exact hx k o v hz (.inr hk)
    · exact h.zx Y (by simp [hY]) k o v hz hk
  · intro Y hY k x hz hk
    rcases List.mem_cons.1 hY with rfl | hY
    · exact hy k x hz (.inl hk)
    rcases List.mem_cons.1 hY with rfl | hY
    · exact hy k x hz (.inr hk)
    · exact h.zy Y (by simp [hY]) k x hz hk
theorem St.closeB {p : Option Addr} {n : Nat} {cs : List Value} (h : St w0 Z (xblk b 93 [x0, .pointer p, .slice A n cp] :: xrow A cp 5 1 cs :: xs) w) (hp : p = none ∨ p = some ⟨b, 1, none⟩) (hn : n = (strBytes s).length) (hc : cs = bcells s) (hA : Bk A cp) : St w0 Z (xbld b x0 A cp s :: xs) w := by
  subst hn; subst hc
  have h1 := h.hd
  have h2 := h.drop.hd
  have hap := List.pairwise_cons.1 h.ap
  have hap2 := List.pairwise_cons.1 hap.2
  refine ⟨h.fr, h.dr, h.zc, h.zb, ?_, ?_, ?_, ?_, ?_⟩
  · intro Y hY
    rcases List.mem_cons.1 hY with rfl | hY
    · exact ⟨⟨p, hp, h1⟩, h2, fun hk => hap.1 _ (by simp) b rfl hk, hA⟩
    · exact h.ob Y (by simp [hY])
  · intro Y hY k hk
    rcases List.mem_cons.1 hY with rfl | hY
    · rcases hk with hk | hk
      · exact h.new (xblk b 93 [x0, .pointer p, .slice A (strBytes s).length cp]) (by simp) k hk
      · exact h.new (xrow A cp 5 1 (bcells s)) (by simp) k hk
    · exact h.new Y (by simp [hY]) k hk
  · refine List.pairwise_cons.2 ⟨fun Y hY k hk hY' => ?_, hap2.2⟩
    rcases hk with hk | hk
    · exact hap.1 Y (by simp [hY]) k hk hY'
    · exact hap2.1 Y hY k hk hY'
  · intro Y hY k o v hz hk
    rcases List.mem_cons.1 hY with rfl | hY
    · rcases hk with hk | hk
      · exact h.zx (xblk b 93 [x0, .pointer p, .slice A (strBytes s).length cp]) (by simp) k o v hz hk
      · exact h.zx (xrow A cp 5 1 (bcells s)) (by simp) k o v hz hk
    · exact h.zx Y (by simp [hY]) k o v hz hk
  · intro Y hY k x hz hk
    rcases List.mem_cons.1 hY with rfl | hY
    · rcases hk with hk | hk
      · exact h.zy (xblk b 93 [x0, .pointer p, .slice A (strBytes s).length cp]) (by simp) k x hz hk
      · exact h.zy (xrow A cp 5 1 (bcells s)) (by simp) k x hz hk
    · exact h.zy Y (by simp [hY]) k x hz hk
theorem St.newB (h : St w0 Z (xblk b 93 [x0, .pointer none, .slice none 0 0] :: xs) w) : St w0 Z (xbld b x0 none 0 ⟨#[]⟩ :: xs) w :=
  St.closeB (cs := []) (h.nilrow none 5 1).pick1 (.inl rfl) rfl rfl (.inl rfl)
theorem St.bldpre (k : Nat) (h : St w0 Z xs w) (hk : nth xs k = some (xbld b x0 A cp s)) : Cells w ⟨b, 0, none⟩ [x0] := by
  obtain ⟨⟨p, hp, h1⟩, -⟩ := h.at k hk
  intro j v hv
  refine Blk.cells h1 j v ?_
  have hj := (List.getElem?_eq_some_iff.1 hv).1
  rw [show ([x0, .pointer p, .slice A (strBytes s).length cp] : List Value) = [x0] ++ [.pointer p, .slice A (strBytes s).length cp] from rfl, List.getElem?_append_left hj]; exact hv
theorem strBytes_cat (s t : ByteArray) : strBytes (s ++ t) = strBytes s ++ strBytes t := by
  simp [strBytes, ByteArray.toList_data_append]
theorem strBytes_len (s : ByteArray) : (strBytes s).length = s.size := by simp [strBytes]
end

theorem bd_size : (Tryz.prog.info? 91).map (fun i => i.size) = some 2 := by kernel_rfl
theorem bd_lies : liesAt Tryz.prog Tryz.prog.depth 93 (3 / Tryz.prog.cellsOf 93) 1 91 1 = true := by kernel_rfl

set_option maxHeartbeats 1000000 in
theorem bd_check_used (b : Nat) (w : World) (h0 : w.cell? ⟨b, 1, none⟩ = some (.pointer (some ⟨b, 1, none⟩))) :
    Calls Tryz.prog 85 #[.pointer (some ⟨b, 1, none⟩)] w fun e w' => e = .returned (.tuple #[]) ∧ w' = w := by
  obtain ⟨j, hj, _⟩ := Option.map_eq_some_iff.1 bd_size
  go_enter Tryz.func85, Tryz.ntmps85
  go_wp2
  rw [Lib.run_neq_ptr_same w _ Tryz.underlying89 hj]
  go_wp2
  go_end0
  exact ⟨rfl, rfl⟩

set_option maxHeartbeats 1000000 in
theorem bd_check_fresh (b : Nat) (w : World) (h0 : w.cell? ⟨b, 1, none⟩ = some (.pointer none)) (hsh : w.shape? b = some (93, 3)) (hfz : w.frozen? ⟨b, 1, none⟩ = false) :
    Calls Tryz.prog 85 #[.pointer (some ⟨b, 1, none⟩)] w fun e w' => e = .returned (.tuple #[]) ∧ w' = w.setCell ⟨b, 1, none⟩ (.pointer (some ⟨b, 1, none⟩)) := by
  obtain ⟨j, hj, hjs⟩ := Option.map_eq_some_iff.1 bd_size
  go_enter Tryz.func85, Tryz.ntmps85
  go_wp2
  rw [Lib.run_to_unsafe w ⟨b, 1, none⟩ Tryz.underlying89 Tryz.underlying123 hj (by rw [hjs]; decide) hsh (by show (1 : Nat) < 3; decide)]
  simp only [Result.andThen]
  rw [Oper.upon_value]
  go_wp2
  rw [run_callFunc_extern Tryz.func122 (by kernel_rfl) (by kernel_rfl) (by kernel_rfl) (e := Extern.AbiNoEscape.same) (by kernel_rfl)]
  rw [Lib.run_noEscape]
  simp only [Result.andThen]
  rw [Oper.upon_value]
  go_wp2
  rw [Lib.run_from_unsafe w ⟨b, 1, none⟩ Tryz.underlying123 Tryz.underlying89 hj hsh bd_lies]
  simp only [Result.andThen]
  rw [Oper.upon_value]
  go_wp2
  go_end0
  exact ⟨rfl, rfl⟩
theorem bd_check {b : Nat} {x0 : Value} {p : Option Addr} {v : Value} {w0 w : World} {Z : Zm} {xs : List XObj} (hp : p = none ∨ p = some ⟨b, 1, none⟩) (h : St w0 Z (xblk b 93 [x0, .pointer p, v] :: xs) w) :
    Calls Tryz.prog 85 #[.pointer (some ⟨b, 1, none⟩)] w fun e w' => e = .returned (.tuple #[]) ∧ St w0 Z (xblk b 93 [x0, .pointer (some ⟨b, 1, none⟩), v] :: xs) w' := by
  have hB : Blk w b 93 [x0, .pointer p, v] := h.hd
  have hbk : w.heap[b]? = some (.cells #[x0, .pointer p, v] 93 (0, 0)) := hB
  rcases hp with rfl | rfl
  · refine (bd_check_fresh b w (by rw [Lib.cell_of_heap hbk]; rfl) (by simp [World.shape?, hbk]) (Lib.frozen_of_heap hbk 1)).mono ?_
    rintro e w' ⟨rfl, rfl⟩
    refine ⟨rfl, h.setblk ⟨rfl, rfl, rfl, by simp [World.setCell], fun k hk hne => ?_, Nat.le_refl _⟩ ?_⟩
    · simp only [World.setCell, Array.getElem?_modify]
      rw [if_neg (fun e => hne e.symm)]
    · show (w.setCell ⟨b, 1, none⟩ (.pointer (some ⟨b, 1, none⟩))).heap[b]? = _
      simp [World.setCell, Array.getElem?_modify, hbk]
  · refine (bd_check_used b w (by rw [Lib.cell_of_heap hbk]; rfl)).mono ?_
    rintro e w' ⟨rfl, rfl⟩
    exact ⟨rfl, h⟩

noncomputable def cdW (p : List Nat) : Code := sub (bodyOf Tryz.f55) p
def bd_write.f (s t : ByteArray) : Option (Int × ByteArray) := if ((strBytes s).length + (strBytes t).length) * 1 ≤ 140737488355328 then some ((t.size : Int), s ++ t) else none
set_option maxHeartbeats 16000000 in
theorem bd_write.ok (s t : ByteArray) (b : Nat) (x0 : Value) (A : Option Addr) (cp : Nat) {w0 : World} {Z : Zm} {fs : List XObj} {w : World} (hS0 : St w0 Z (xbld b x0 A cp s :: fs) w) {q0 : Int} {q1 : ByteArray} (hp0 : bd_write.f s t = some (q0, q1)) :
    Calls Tryz.prog 55 #[.pointer (some ⟨b, 1, none⟩), .string t] w (fun e w' => ∃ (QA0 : Option Addr) (Qc0 : Nat), e = .returned (.tuple #[.int .i64 q0, .nilIface]) ∧ St w0 Z (xbld b x0 QA0 Qc0 q1 :: fs) w') := by
  refine calls_abs ?_; intro R hR
  unfold bd_write.f at hp0
  obtain ⟨p, hp, hS1, hA0⟩ := hS0.openB
  refine calls_of_runs (fn := Tryz.f55) (c := cdW []) Tryz.func55 (by kernel_rfl) (al := [.pointer (some ⟨b, 1, none⟩), .string t]) rfl (n := 17) rfl ?_
  refine sx_run 8 (todo' := [.inRegion (opsOf (cdW [1, 0])) [1], .code (cdW [1, 1])]) (us := [(4, .int .i64 0), (5, .nilIface), (6, .pointer (some ⟨b, 1, none⟩))]) (by kernel_rfl) ?_
  refine r_call1 (c := (cdW [1, 0])) (i := 1) (d := (some 7)) (g := 85) (args := #[.pointer (some ⟨b, 1, none⟩)]) (by kernel_rfl) (by kernel_rfl) (by kernel_rfl) (by kernel_rfl) (bd_check hp hS1) ?_
  rintro _ w1 ⟨rfl, hS2⟩
  refine ⟨.tuple #[], rfl, ?_⟩
  refine sx_run 7 (todo' := [.inRegion (opsOf (cdW [1, 1, 0])) [4, 5, 6, 7, 8, 9], .code (cdW [1, 1, 1])]) (us := [(8, .pointer (some ⟨b, 1, none⟩)), (9, .pointer (some ⟨b, 1, none⟩)), (10, .pointer (some ⟨b, 1, none⟩)), (11, .pointer (some ⟨b, 2, none⟩))]) (by kernel_rfl) ?_
  refine r_load (c := (cdW [1, 1, 0])) (i := 4) (d := (some 12)) (ty := 54) (t := 54) (x := (.tmp 11)) (p := ⟨b, 2, none⟩) (v := .slice A (strBytes s).length cp) (by kernel_rfl) (by kernel_rfl) (by kernel_rfl) (loads_at 2 (hS2.blk 0 rfl) (by kernel_rfl) (by kernel_rfl)) ?_
  refine sx_run 1 (todo' := [.inRegion (opsOf (cdW [1, 1, 0])) [6, 7, 8, 9], .code (cdW [1, 1, 1])]) (us := [(13, .string t)]) (by kernel_rfl) ?_
  have hS3 := hS2.pick1
  obtain ⟨g4, hp5⟩ := ite_some hp0
  refine r_appendB (c := (cdW [1, 1, 0])) (i := 6) (d := (some 14)) (ty := 54) (e := 5) (u := 0) (t := 54) (t2 := 9) (sz := 1) (n := (strBytes s).length) (m := (strBytes t).length) (cp := cp) (A := A) (bytes := 1) (xcs := bcells s) (ycs := (strBytes t).map (Value.int .u8)) (s := (.tmp 12)) (x := (.tmp 13)) (xv := .string t) (info := infoOf Tryz.prog 5) (z := zeroOf Tryz.prog 5) hS3 (by kernel_rfl) (by kernel_rfl) (by kernel_rfl) (by kernel_rfl) (by kernel_rfl) (.inr (by kernel_rfl)) (by kernel_rfl) (by kernel_rfl) (by kernel_rfl) (by kernel_rfl) (by kernel_rfl) (by omega) (flat_len (len_encI .u8) _) (by have h := src_str (P := Tryz.prog) (w := w1) t; rwa [← strBytes_len t] at h) (by rw [← flat_encI]; exact flat_one (one_encI .u8) _) g4 (by omega) ?_
  intro A6 c7 w8 hA1 hS9
  refine sx_run 2 (todo' := [.inRegion (opsOf (cdW [1, 1, 0])) [9], .code (cdW [1, 1, 1])]) (us := [(15, .pointer (some ⟨b, 1, none⟩)), (16, .pointer (some ⟨b, 2, none⟩))]) (by kernel_rfl) ?_
  have hS11 := hS9.pick1
  refine r_store (c := (cdW [1, 1, 0])) (i := 9) (d := none) (ty := 0) (t := 54) (x := (.tmp 16)) (y := (.tmp 14)) (b := b) (o := 2) (e := 93) (cs := [x0, .pointer (some ⟨b, 1, none⟩), .slice A (strBytes s).length cp]) (v := .slice A6 ((strBytes s).length + (strBytes t).length) c7) (vs := [.slice A6 ((strBytes s).length + (strBytes t).length) c7]) (cs' := [x0, .pointer (some ⟨b, 1, none⟩), .slice A6 ((strBytes s).length + (strBytes t).length) c7]) hS11 (by kernel_rfl) (by kernel_rfl) (by kernel_rfl) (by kernel_rfl) (by kernel_rfl) (by kernel_rfl) (by kernel_rfl) (Nat.le_of_ble_eq_true (by kernel_rfl)) (by kernel_rfl) ?_
  intro w12 hS13
  refine sx_run 8 (todo' := [.code (cdW [1, 1, 1, 1])]) (us := [(17, .string t), (18, .int .i64 (t.size : Int)), (4, .int .i64 (t.size : Int)), (5, .nilIface)]) (by kernel_rfl) ?_
  refine runs_ret (fn := Tryz.f55) (v := .tuple #[.int .i64 (t.size : Int), .nilIface]) Tryz.func55 (by kernel_rfl) ?_
  have hr15 := (Option.some.inj hp5)
  cases hr15
  exact hR _ _ ⟨A6, c7, rfl, St.closeB hS13 (.inr rfl) (by rw [strBytes_cat, List.length_append]) (by rw [← flat_encI]; simp only [bcells, strBytes_cat, List.flatMap_append]) (hA1.elim (fun h => by rw [h.1, h.2]; exact hA0) .inr)⟩

def xgone (S : Nat → Prop) : XObj where
  own := S
  keeps := fun _ _ => False
  holds := fun w => ∀ k, S k → k < w.heap.size
  stable := fun {w w'} hb h k hk => by
    have h1 : w.heap[k]? = some (w.heap[k]'(h k hk)) := Array.getElem?_eq_getElem (h k hk)
    exact heap_lt ((hb k hk).trans h1)
  there := fun h hk => h _ hk
theorem freeze_fr (w : World) (g n : Nat) : FrP (· = g) w (w.freeze ⟨g, 0, none⟩ n) := by
  unfold World.freeze
  split
  · exact FrP.refl _ _
  · refine ⟨rfl, rfl, rfl, by simp, fun k hk hne => ?_, Nat.le_refl _⟩
    simp only [Array.getElem?_modify]
    rw [if_neg (fun e => hne e.symm)]
theorem x_call {P : Program} {l : List Value} {w w' : World} {o : Oper} {b : Builtin} {xs : Array Operand} {ats : Array TypeId} {vs : Array Value} {v : Value} (hv : xs.map (evL l) = vs) (ho : o.op = .call { callee := .builtin b, args := xs, argTypes := ats })
    (hr : (builtin b ats o.type (xs.map fun x => match x with | .const v => true | x => false) vs).run P w = .ok (.value v) w') : (execOp (evL l) o).run P w = .ok (.value v) w' := by
  subst hv
  unfold execOp
  simp only [ho, resolve, invoke, Sem.run_bind, Sem.run_pure, Result.andThen_ok]
  exact hr
theorem freeze_key (w : World) (g n k : Nat) : (w.freeze ⟨g, 0, none⟩ n).heap[k]? = w.heap[k]? ∨ ∃ (c : Array Value) (e : TypeId) (fz fz' : Nat × Nat), w.heap[k]? = some (Obj.cells c e fz) ∧ (w.freeze ⟨g, 0, none⟩ n).heap[k]? = some (Obj.cells c e fz') := by
  unfold World.freeze
  split
  · exact .inl rfl
  · simp only [Array.getElem?_modify]
    split
    · rename_i hk
      cases hq : w.heap[k]? with
      | none => exact .inl rfl
      | some o =>
        cases o with
        | cells c e fz => exact .inr ⟨c, e, fz, _, rfl, by simp; rfl⟩
        | _ => exact .inl rfl
    · exact .inl rfl
theorem freeze_shape (w : World) (g n k : Nat) : (w.freeze ⟨g, 0, none⟩ n).shape? k = w.shape? k := by
  unfold World.shape?
  rcases freeze_key w g n k with h1 | ⟨c, e, fz, fz', h1, h2⟩
  · rw [h1]
  · rw [h1, h2]
theorem freeze_cell (w : World) (g n : Nat) (a : Addr) : (w.freeze ⟨g, 0, none⟩ n).cell? a = w.cell? a := by
  unfold World.cell?
  rcases freeze_key w g n a.block with h1 | ⟨c, e, fz, fz', h1, h2⟩
  · rw [h1]
  · rw [h1, h2]
noncomputable def cdT (p : List Nat) : Code := sub (bodyOf Tryz.f34) p
def bd_string.f (s : ByteArray) : Option ByteArray := some s
set_option maxHeartbeats 16000000 in
theorem bd_string.ok (s : ByteArray) (b : Nat) (x0 : Value) (A : Option Addr) (cp : Nat) {w0 : World} {Z : Zm} {fs : List XObj} {w : World} (hS0 : St w0 Z (xbld b x0 A cp s :: fs) w) {q0 : ByteArray} (hp0 : bd_string.f s = some q0) :
    Calls Tryz.prog 34 #[.pointer (some ⟨b, 1, none⟩)] w (fun e w' => e = .returned (.string q0) ∧ St w0 Z fs w') := by
  refine calls_abs ?_; intro R hR
  obtain rfl := Option.some.inj hp0
  obtain ⟨p, hp, hS1, hA0⟩ := hS0.openB
  have hlen := strBytes_len s
  have hl : s.data.toList.length = s.size := Array.length_toList
  have hrow : RowIn A cp 5 1 (bcells s) w := hS1.drop.hd
  have hcl : (bcells s).length = s.size := by rw [bcells, flat_len (len_encI .u8), hlen]; omega
  have hS2 : St w0 Z (xblk b 93 [x0, .pointer p, .slice A (strBytes s).length cp] :: xgone (xrow A cp 5 1 (bcells s)).own :: fs) w :=
    (hS1.pick1.turn (X' := xgone (xrow A cp 5 1 (bcells s)).own) (FrP.refl _ _) (fun k hk => (xrow A cp 5 1 (bcells s)).there hrow hk) (fun k hk => .inl hk) (fun _ _ _ _ h => h.elim) (fun _ _ _ _ h => h.elim)).pick1
  let Cb : World → Prop := fun w' => St w0 Z (xblk b 93 [x0, .pointer p, .slice A (strBytes s).length cp] :: xgone (xrow A cp 5 1 (bcells s)).own :: fs) w' ∧ (∀ g, w'.shape? g = w.shape? g) ∧ (∀ a, w'.cell? a = w.cell? a)
  have hSD : ∀ (w' : World) ts ty, (Builtin.unsafeSliceData_ ts ty #[.slice A (strBytes s).length cp]).run Tryz.prog w' = .ok (.pointer A) w' := by
    intro w' ts ty
    rcases hA0 with rfl | ⟨h0, g, rfl⟩
    · rfl
    · exact Lib.run_unsafeSliceData_row _ _ _ _ _ _ (by omega)
  have hUS : ∀ w', Cb w' → ∃ w2, (Builtin.unsafeString_ #[140, 3] 9 #[.pointer A, .int .i64 ((strBytes s).length : Int)]).run Tryz.prog w' = .ok (.string s) w2 ∧ Cb w2 := by
    rintro w' ⟨hC, hsh, hce⟩
    by_cases h0 : s.size = 0
    · refine ⟨w', ?_, hC, hsh, hce⟩
      have e0 : ByteArray.empty = s := (ByteArray.size_eq_zero_iff.1 h0).symm
      rw [hlen, h0, ← e0]
      exact Lib.run_unsafeString_none w' _ _ _ _
    · rcases hrow with ⟨_, hz⟩ | ⟨g, pre, tail, hA, hB, h3, h4, h5⟩
      · rw [hz] at hcl; simp only [List.length_nil] at hcl; omega
      · have hpre : pre = [] := by
          rcases hA0 with h | ⟨_, g', h⟩
          · rw [h] at hA; cases hA
          · rw [h] at hA
            have := congrArg Addr.off (Option.some.inj hA)
            exact List.eq_nil_of_length_eq_zero this.symm
        subst hpre
        have hAg : A = some ⟨g, 0, none⟩ := hA
        have hgb : w.heap[g]? = some (.cells ([] ++ (bcells s ++ tail)).toArray 5 (0, 0)) := hB
        refine ⟨w'.freeze ⟨g, 0, none⟩ s.size, ?_, ?_, fun k => by rw [freeze_shape, hsh], fun a => by rw [freeze_cell, hce]⟩
        · have hk := Lib.run_unsafeString_row (P := Tryz.prog) w' 140 3 9 5 Tryz.underlying140 (by kernel_rfl) g ([] ++ (bcells s ++ tail)).toArray.size (by rw [hsh]; simp [World.shape?, hgb]) s.data.toList (by intro hc; rw [hc] at hl; exact h0 hl.symm) (by rw [List.size_toArray, List.nil_append, List.length_append, hcl, hl]; omega) (by rw [hl]; omega) (by
            intro j x hx
            have hj : j < s.data.toList.length := (List.getElem?_eq_some_iff.1 hx).1
            rw [hce]
            exact Blk.cells hB j (.int .u8 x.toNat) (by
              rw [List.nil_append, List.getElem?_append_left (by omega), bcells, flat_encI]
              simp [strBytes, hx]))
          rw [hl] at hk
          rw [hlen, hAg]
          exact hk
        · exact (hC.pick1.turn (X' := xgone (xrow A cp 5 1 (bcells s)).own) (w' := w'.freeze ⟨g, 0, none⟩ s.size) ((freeze_fr w' g s.size).mono (fun k _ hk => ⟨h4, _, hAg, hk.symm⟩)) (fun k hk => Nat.lt_of_lt_of_le ((xgone (xrow A cp 5 1 (bcells s)).own).there hC.drop.hd hk) (freeze_fr w' g s.size).size) (fun k hk => .inl hk) (fun _ _ _ _ h => h.elim) (fun _ _ _ _ h => h.elim)).pick1
  have hread : ∀ i, i < 12 → [10, 11].contains i = false → ∀ w', Cb w' → Does Tryz.prog (execOp (evL (finX (opsOf (cdT [1, 0])) (fun i => ([.pointer (some ⟨b, 1, none⟩), .pointer (some ⟨b, 1, none⟩), .pointer (some ⟨b, 2, none⟩), .slice A (strBytes s).length cp, .pointer A, .pointer (some ⟨b, 1, none⟩), .pointer (some ⟨b, 1, none⟩), .pointer (some ⟨b, 2, none⟩), .slice A (strBytes s).length cp, .int .i64 ((strBytes s).length : Int), .string s, .string s] : List Value).getD i undef) [.pointer (some ⟨b, 1, none⟩), undef, .string ⟨#[]⟩, undef, undef, undef, undef, undef, undef, undef, undef, undef, undef, undef] ([] ++ [10, 11]) 12)) (opO (cdT [1, 0]) i)) False w' fun v w2 => v = ([.pointer (some ⟨b, 1, none⟩), .pointer (some ⟨b, 1, none⟩), .pointer (some ⟨b, 2, none⟩), .slice A (strBytes s).length cp, .pointer A, .pointer (some ⟨b, 1, none⟩), .pointer (some ⟨b, 1, none⟩), .pointer (some ⟨b, 2, none⟩), .slice A (strBytes s).length cp, .int .i64 ((strBytes s).length : Int), .string s, .string s] : List Value).getD i undef ∧ Cb w2 := by
    intro i hi he w' hC
    match i, hi, he with
    | 0, _, _ => exact does_pure (v := .pointer (some ⟨b, 1, none⟩)) (by kernel_rfl) rfl hC
    | 1, _, _ => exact does_pure (v := .pointer (some ⟨b, 1, none⟩)) (by kernel_rfl) rfl hC
    | 2, _, _ => exact does_pure (v := .pointer (some ⟨b, 2, none⟩)) (by kernel_rfl) rfl hC
    | 3, _, _ => exact does_run (x_load (t := 54) (x := (.tmp 5)) (p := ⟨b, 2, none⟩) (v := .slice A (strBytes s).length cp) (by kernel_rfl) (loads_at 2 (hC.1.blk 0 rfl) (by kernel_rfl) (by kernel_rfl)) (by kernel_rfl)) rfl hC
    | 4, _, _ => exact does_run (x_call (b := .unsafeSliceData) (xs := #[.tmp 6]) (ats := #[54]) (vs := #[.slice A (strBytes s).length cp]) (v := .pointer A) (by kernel_rfl) (by kernel_rfl) (by simp only [builtin, Sem.run_bind, hSD w', Result.andThen_ok, Sem.run_pure])) rfl hC
    | 5, _, _ => exact does_pure (v := .pointer (some ⟨b, 1, none⟩)) (by kernel_rfl) rfl hC
    | 6, _, _ => exact does_pure (v := .pointer (some ⟨b, 1, none⟩)) (by kernel_rfl) rfl hC
    | 7, _, _ => exact does_pure (v := .pointer (some ⟨b, 2, none⟩)) (by kernel_rfl) rfl hC
    | 8, _, _ => exact does_run (x_load (t := 54) (x := (.tmp 10)) (p := ⟨b, 2, none⟩) (v := .slice A (strBytes s).length cp) (by kernel_rfl) (loads_at 2 (hC.1.blk 0 rfl) (by kernel_rfl) (by kernel_rfl)) (by kernel_rfl)) rfl hC
    | 9, _, _ => exact does_pure (v := .int .i64 ((strBytes s).length : Int)) (by kernel_rfl) rfl hC
    | 10, _, he => exact absurd he (by decide)
    | 11, _, he => exact absurd he (by decide)
    | n + 12, hi, _ => omega
  refine calls_of_runs (fn := Tryz.f34) (c := cdT []) Tryz.func34 (by kernel_rfl) (al := [.pointer (some ⟨b, 1, none⟩)]) rfl (n := 13) rfl ?_
  refine sx_run 5 (todo' := [.code (cdT [1, 0]), .code (cdT [1, 1])]) (us := [(2, .string ⟨#[]⟩)]) (by kernel_rfl) ?_
  refine r_drawnF (c := cdT [1, 0]) (id := 1) (X := Unit) (C0 := Cb) (C1 := fun _ => Cb) (vs := [.pointer (some ⟨b, 1, none⟩), .pointer (some ⟨b, 1, none⟩), .pointer (some ⟨b, 2, none⟩), .slice A (strBytes s).length cp, .pointer A, .pointer (some ⟨b, 1, none⟩), .pointer (some ⟨b, 1, none⟩), .pointer (some ⟨b, 2, none⟩), .slice A (strBytes s).length cp, .int .i64 ((strBytes s).length : Int), .string s, .string s]) (vx := fun _ => [.pointer (some ⟨b, 1, none⟩), .pointer (some ⟨b, 1, none⟩), .pointer (some ⟨b, 2, none⟩), .slice A (strBytes s).length cp, .pointer A, .pointer (some ⟨b, 1, none⟩), .pointer (some ⟨b, 1, none⟩), .pointer (some ⟨b, 2, none⟩), .slice A (strBytes s).length cp, .int .i64 ((strBytes s).length : Int), .string s, .string s]) (l0 := [.pointer (some ⟨b, 1, none⟩), undef, .string ⟨#[]⟩, undef, undef, undef, undef, undef, undef, undef, undef, undef, undef, undef]) 10 12 [10, 11] [] (by kernel_rfl) (by kernel_rfl) (by kernel_rfl) (by omega) (by kernel_rfl) (by kernel_rfl) (by kernel_rfl) (by kernel_rfl) (fun _ _ _ _ => rfl) (fun _ => ⟨rfl, rfl⟩) ⟨hS2.drew, fun _ => rfl, fun _ => rfl⟩ hread (fun i hi he _ => hread i hi he) ?_ ?_ ?_
  · intro w' hC
    obtain ⟨w2, hr, hC2⟩ := hUS w' hC
    exact .inl ⟨.string s, w2, x_call (b := .unsafeString) (xs := #[.tmp 7, .tmp 12]) (ats := #[140, 3]) (vs := #[.pointer A, .int .i64 ((strBytes s).length : Int)]) (by kernel_rfl) (by kernel_rfl) (by rw [show (opO (cdT [1, 0]) 10).type = 9 from by kernel_rfl]; simp only [builtin, Sem.run_bind, hr, Result.andThen_ok, Sem.run_pure]), (), .inr rfl, hC2⟩
  · intro i hi he hne _ w' hC
    match i, hi, he, hne with
    | 11, _, _, _ => exact does_pure (v := .string s) (by kernel_rfl) rfl hC
  · intro _ w' hC
    refine runs_ret (fn := Tryz.f34) (v := .string s) Tryz.func34 (by kernel_rfl) ?_
    exact hR _ _ ⟨rfl, hC.1.drop.drop⟩
end Go.Proofs.YtboejepakdnbgaaGreatDoor.K
