/- The second form's bound, as a bound on the weights of what came in. -/
import Derived.Test.YtboejepakdnbgaaGreatDoorRows
import Derived.Test.YtboejepakdnbgaaGreatDoorNL
set_option linter.unusedVariables false
set_option linter.unusedSimpArgs false
set_option linter.unusedSectionVars false
namespace Go.Proofs.YtboejepakdnbgaaGreatDoor.K
open Go Go.RowKit Go.ChangeShapes Go.WideShapes Go.ChangeAt

/-- No element of a slice or a map has more bytes; all parts are types of the program's own list. -/
def slB (P : Program) (M : Nat) : Bool := (List.range P.types.size).all fun t => match P.underlying t with
  | some (.slice e) => decide (P.bytesOf e ≤ M) && decide (e < P.types.size)
  | some (.map k e) => decide (P.bytesOf k + P.bytesOf e ≤ M) && decide (e < P.types.size)
  | some (.pointer e) => decide (e < P.types.size)
  | some (.struct fs) => (fs.toList.map (·.type)).all fun e => decide (e < P.types.size)
  | some (.array _ e) => decide (e < P.types.size)
  | _ => true
theorem slB_at {P : Program} {M : Nat} (h : slB P M = true) {t : TypeId} (ht : t < P.types.size) {d : TypeDesc} (hu : P.underlying t = some d) : (match d with
  | .slice e => P.bytesOf e ≤ M ∧ e < P.types.size
  | .map k e => P.bytesOf k + P.bytesOf e ≤ M ∧ e < P.types.size
  | .pointer e => e < P.types.size
  | .struct fs => ∀ e ∈ fs.toList.map (·.type), e < P.types.size
  | .array _ e => e < P.types.size
  | _ => True : Prop) := by
  have := List.all_eq_true.1 h t (List.mem_range.2 ht)
  rw [hu] at this
  cases d <;> simp only [Bool.and_eq_true, decide_eq_true_eq, List.all_eq_true] at this ⊢ <;> exact this
theorem bulk_pos {H : Type} (d : DataW H) : 1 ≤ Rows.uptoBulk d := by
  cases d with
  | lit l => cases l <;> simp [Rows.uptoBulk]
  | nil => simp [Rows.uptoBulk]
  | ptr d => simp [Rows.uptoBulk]
  | slice elems spare => simp [Rows.uptoBulk]
  | agg parts => simp [Rows.uptoBulk]
  | iface t d => simp [Rows.uptoBulk]
  | map entries => simp [Rows.uptoBulk]
  | held h => simp [Rows.uptoBulk]
theorem bulk_len {H : Type} : ∀ l : List (DataW H), l.length ≤ Rows.uptoBulkAll l
  | [] => by simp [Rows.uptoBulkAll]
  | x :: r => by have := bulk_pos x; have := bulk_len r; simp only [Rows.uptoBulkAll, List.length_cons]; omega
theorem bulk_entry {H : Type} (x : Lit × DataW H) : 1 ≤ Rows.uptoBulkEntry x := by
  obtain ⟨l, d⟩ := x
  cases l <;> simp [Rows.uptoBulkEntry]
theorem bulk_elen {H : Type} : ∀ l : List (Lit × DataW H), l.length ≤ Rows.uptoBulkEntries l
  | [] => by simp [Rows.uptoBulkEntries]
  | x :: r => by have := bulk_entry x; have := bulk_elen r; simp only [Rows.uptoBulkEntries, List.length_cons]; omega
section
variable {H : Type} {P : Program} {M : Nat} (hM : slB P M = true) (h1 : 1 ≤ M)
include hM h1
mutual
theorem w_bulk : ∀ (d : DataW H) (t : TypeId) (ht : t < P.types.size) (k : Nat), k ∈ d.weights P t → k ≤ Rows.uptoBulk d * M
  | .lit l, t, ht, k, hk => by
    cases l with
    | string bytes =>
      simp only [DataW.weights, List.mem_cons, List.not_mem_nil, or_false] at hk
      subst hk
      simp only [Rows.uptoBulk]
      exact Nat.le_trans (Nat.le_succ _) (Nat.le_mul_of_pos_right _ h1)
    | _ => simp [DataW.weights] at hk
  | .nil, t, ht, k, hk => by simp [DataW.weights] at hk
  | .ptr d, t, ht, k, hk => by
    simp only [DataW.weights] at hk
    split at hk
    · rename_i e hu
      have := w_bulk d _ (slB_at hM ht hu) k hk
      simp only [Rows.uptoBulk]
      exact Nat.le_trans this (Nat.mul_le_mul_right _ (Nat.le_succ _))
    · cases hk
  | .slice elems spare, t, ht, k, hk => by
    simp only [DataW.weights] at hk
    split at hk
    · rename_i e hu
      rw [List.mem_cons, List.mem_append] at hk
      simp only [Rows.uptoBulk]
      rcases hk with rfl | hk | hk
      · have a := bulk_len elems
        have b := bulk_len spare
        exact Nat.mul_le_mul (by omega) (slB_at hM ht hu).1
      · exact Nat.le_trans (w_bulkAll elems _ (slB_at hM ht hu).2 k hk) (Nat.mul_le_mul_right _ (by omega))
      · exact Nat.le_trans (w_bulkAll spare _ (slB_at hM ht hu).2 k hk) (Nat.mul_le_mul_right _ (by omega))
    · cases hk
  | .agg parts, t, ht, k, hk => by
    simp only [DataW.weights] at hk
    simp only [Rows.uptoBulk]
    split at hk
    · rename_i fs hu
      exact Nat.le_trans (w_bulkEach parts _ (slB_at hM ht hu) k hk) (Nat.mul_le_mul_right _ (by omega))
    · rename_i n e hu
      exact Nat.le_trans (w_bulkAll parts _ (slB_at hM ht hu) k hk) (Nat.mul_le_mul_right _ (by omega))
    · cases hk
  | .iface t d, _, _, k, hk => by simp [DataW.weights] at hk
  | .map entries, t, ht, k, hk => by
    simp only [DataW.weights] at hk
    split at hk
    · rename_i kk e hu
      rw [List.mem_cons] at hk
      simp only [Rows.uptoBulk]
      rcases hk with rfl | hk
      · have a := bulk_elen entries
        exact Nat.mul_le_mul (by omega) (slB_at hM ht hu).1
      · exact Nat.le_trans (w_bulkEntries entries _ (slB_at hM ht hu).2 k hk) (Nat.mul_le_mul_right _ (by omega))
    · cases hk
  | .held h, t, _, k, hk => by simp [DataW.weights] at hk
theorem w_bulkAll : ∀ (l : List (DataW H)) (e : TypeId) (ht : e < P.types.size) (k : Nat), k ∈ DataW.weightsAll P e l → k ≤ Rows.uptoBulkAll l * M
  | [], e, ht, k, hk => by simp [DataW.weightsAll] at hk
  | d :: r, e, ht, k, hk => by
    simp only [DataW.weightsAll, List.mem_append] at hk
    simp only [Rows.uptoBulkAll]
    rcases hk with hk | hk
    · exact Nat.le_trans (w_bulk d _ ht k hk) (Nat.mul_le_mul_right _ (by omega))
    · exact Nat.le_trans (w_bulkAll r _ ht k hk) (Nat.mul_le_mul_right _ (by omega))
theorem w_bulkEach : ∀ (l : List (DataW H)) (ts : List TypeId) (ht : ∀ e ∈ ts, e < P.types.size) (k : Nat), k ∈ DataW.weightsEach P ts l → k ≤ Rows.uptoBulkAll l * M
  | [], ts, _, k, hk => by cases ts <;> simp [DataW.weightsEach] at hk
  | d :: r, [], _, k, hk => by simp [DataW.weightsEach] at hk
  | d :: r, t :: ts, ht, k, hk => by
    simp only [DataW.weightsEach, List.mem_append] at hk
    simp only [Rows.uptoBulkAll]
    rcases hk with hk | hk
    · exact Nat.le_trans (w_bulk d _ (ht _ (List.mem_cons_self ..)) k hk) (Nat.mul_le_mul_right _ (by omega))
    · exact Nat.le_trans (w_bulkEach r _ (fun e he => ht e (List.mem_cons_of_mem _ he)) k hk) (Nat.mul_le_mul_right _ (by omega))
theorem w_bulkEntries : ∀ (l : List (Lit × DataW H)) (e : TypeId) (ht : e < P.types.size) (k : Nat), k ∈ DataW.weightsEntries P e l → k ≤ Rows.uptoBulkEntries l * M
  | [], e, ht, k, hk => by simp [DataW.weightsEntries] at hk
  | x :: r, e, ht, k, hk => by
    simp only [DataW.weightsEntries, List.mem_append] at hk
    simp only [Rows.uptoBulkEntries]
    rcases hk with hk | hk
    · exact Nat.le_trans (w_bulkEntry x _ ht k hk) (Nat.mul_le_mul_right _ (by omega))
    · exact Nat.le_trans (w_bulkEntries r _ ht k hk) (Nat.mul_le_mul_right _ (by omega))
theorem w_bulkEntry : ∀ (x : Lit × DataW H) (e : TypeId) (ht : e < P.types.size) (k : Nat), k ∈ DataW.weightsEntry P e x → k ≤ Rows.uptoBulkEntry x * M
  | (.string bytes, d), e, ht, k, hk => by
    simp only [DataW.weightsEntry, List.mem_cons] at hk
    simp only [Rows.uptoBulkEntry]
    rcases hk with rfl | hk
    · exact Nat.le_trans (Nat.le_mul_of_pos_right _ h1) (Nat.mul_le_mul_right _ (by omega))
    · exact Nat.le_trans (w_bulk d _ ht k hk) (Nat.mul_le_mul_right _ (by omega))
  | (.int _ _, d), e, ht, k, hk | (.bool _, d), e, ht, k, hk | (.float _ _, d), e, ht, k, hk | (.nil, d), e, ht, k, hk => by
    simp only [DataW.weightsEntry] at hk
    simp only [Rows.uptoBulkEntry]
    exact Nat.le_trans (w_bulk d _ ht k hk) (Nat.mul_le_mul_right _ (by omega))
end
end
/-- What the second form's premise gives. -/
theorem small_weights {H : Type} {P : Program} {ts : List TypeId} {ds : List (DataW H)} (hM : slB P 4096 = true) (ht : ts.all (fun t => decide (t < P.types.size)) = true) (h : Rows.uptoSmall H ds = true) : (DataW.weightsEach P ts ds).all (· ≤ 4294967296) = true := by
  have hb : Rows.uptoBulkAll ds ≤ 1048576 := by simpa [Rows.uptoSmall] using h
  rw [List.all_eq_true]
  intro k hk
  have := w_bulkEach hM (by decide) ds ts (fun e he => by have := List.all_eq_true.1 ht e he; simpa using this) k hk
  exact decide_eq_true (Nat.le_trans this (Nat.mul_le_mul_right _ hb))
end Go.Proofs.YtboejepakdnbgaaGreatDoor.K
