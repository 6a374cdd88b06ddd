/- A pick's text, as the program cuts it and as the document reads it: over lists of bytes. No program. -/
import Derived.Test.YtlapbgeklhinmaaDoorSA
set_option linter.unusedVariables false
set_option linter.unusedSimpArgs false
namespace Go.Proofs.YtlapbgeklhinmaaDoor.K
open Go

/-- A numeral of at most four digits. -/
def gdn (x : List UInt8) : Bool := !x.isEmpty && x.all isDg && (x.length == 1 || x.head? != some 48) && decide (x.length ≤ 4)
def nm (x : List UInt8) : Option Nat := if gdn x then some (dv x) else none
theorem gdn_iff (x : List UInt8) : gdn x = true ↔ good x ∧ x.length ≤ 4 := by
  simp only [gdn, good, Bool.and_eq_true, Bool.or_eq_true, decide_eq_true_eq, Bool.not_eq_true', List.isEmpty_eq_false_iff, List.all_eq_true, beq_iff_eq, bne_iff_ne, ne_eq, and_assoc]
theorem nm_some {x : List UInt8} {n : Nat} (h : nm x = some n) : gdn x = true ∧ dv x = n := by
  unfold nm at h
  split at h
  · rename_i hg; exact ⟨hg, by simpa using h⟩
  · cases h
theorem nm_none {x : List UInt8} (h : nm x = none) : gdn x = false := by
  unfold nm at h
  split at h
  · cases h
  · rename_i hg; simpa using hg
/-- The digits at the front, five at most; what they say (-1: no numeral), and how many they are. -/
def dg5 (l : List UInt8) : List UInt8 := (l.takeWhile isDg).take 5
def numL (l : List UInt8) : Int × Nat := if gdn (dg5 l) then (((dv (dg5 l) : Nat) : Int), (dg5 l).length) else (-1, 0)
theorem tw_all {p : UInt8 → Bool} : ∀ (l : List UInt8), ∀ b ∈ l.takeWhile p, p b = true
  | [], b, h => by cases h
  | a :: l, b, h => by
    rw [List.takeWhile_cons] at h
    split at h
    · rename_i ha
      rcases List.mem_cons.1 h with rfl | h
      · exact ha
      · exact tw_all l b h
    · cases h
theorem tw_app {p : UInt8 → Bool} {c : UInt8} (hc : p c = false) : ∀ (x l : List UInt8), (x ++ c :: l).takeWhile p = x.takeWhile p
  | [], l => by simp [hc]
  | a :: x, l => by
    simp only [List.cons_append, List.takeWhile_cons]
    split
    · rw [tw_app hc x l]
    · rfl
theorem tw_same {p : UInt8 → Bool} : ∀ (x : List UInt8), (∀ b ∈ x, p b = true) → x.takeWhile p = x
  | [], _ => rfl
  | a :: x, h => by rw [List.takeWhile_cons, if_pos (h a (by simp)), tw_same x (fun b hb => h b (List.mem_cons_of_mem _ hb))]
theorem tw_drop {p : UInt8 → Bool} : ∀ (x : List UInt8), x.takeWhile p = x ∨ ∃ b r, x.drop (x.takeWhile p).length = b :: r ∧ p b = false
  | [] => .inl rfl
  | a :: x => by
    rw [List.takeWhile_cons]
    by_cases h : p a = true
    · rw [if_pos h]
      rcases tw_drop (p := p) x with h1 | ⟨b, r, h1, h2⟩
      · exact .inl (by rw [h1])
      · exact .inr ⟨b, r, by simpa using h1, h2⟩
    · rw [if_neg h]
      exact .inr ⟨a, x, rfl, by simpa using h⟩
theorem tw_pre {p : UInt8 → Bool} : ∀ (x : List UInt8), x.takeWhile p ++ x.drop (x.takeWhile p).length = x
  | [] => rfl
  | a :: x => by
    rw [List.takeWhile_cons]
    split
    · simpa using tw_pre x
    · rfl
theorem dg58 : isDg 58 = false := by decide
theorem gdn_len {x : List UInt8} (h : gdn (x.take 5) = true) : x.take 5 = x := by
  have := ((gdn_iff _).1 h).2
  rw [List.length_take] at this
  exact List.take_of_length_le (by omega)
theorem good_all {x : List UInt8} (h : gdn x = true) : ∀ b ∈ x, isDg b = true := ((gdn_iff x).1 h).1.2.1
/-- Up to a colon. -/
theorem num_colon {x l : List UInt8} (h58 : (58 : UInt8) ∉ x) :
    (∀ n, nm x = some n → numL (x ++ 58 :: l) = (((n : Nat) : Int), x.length)) ∧ (nm x = none → (numL (x ++ 58 :: l)).1 < 0 ∨ ∃ b r, (x ++ 58 :: l).drop (numL (x ++ 58 :: l)).2 = b :: r ∧ b ≠ 58) := by
  have e : dg5 (x ++ 58 :: l) = (x.takeWhile isDg).take 5 := by unfold dg5; rw [tw_app dg58]
  refine ⟨fun n h => ?_, fun h => ?_⟩
  · obtain ⟨h1, h2⟩ := nm_some h
    have e2 : dg5 (x ++ 58 :: l) = x := by
      rw [e, tw_same x (good_all h1)]
      exact List.take_of_length_le (by have := ((gdn_iff x).1 h1).2; omega)
    unfold numL
    rw [e2, if_pos h1, h2]
  · unfold numL
    rw [e]
    by_cases hg : gdn ((x.takeWhile isDg).take 5) = true
    · rw [if_pos hg, gdn_len hg]
      right
      rcases tw_drop (p := isDg) x with h1 | ⟨b, r, h1, h2⟩
      · rw [h1] at hg
        rw [gdn_len hg] at hg
        rw [nm_none h] at hg; cases hg
      · have hb : b ∈ x := by rw [← tw_pre (p := isDg) x, h1]; simp
        refine ⟨b, r ++ 58 :: l, ?_, fun hh => h58 (hh ▸ hb)⟩
        have hle : (x.takeWhile isDg).length ≤ x.length := (List.takeWhile_sublist _).length_le
        show (x ++ 58 :: l).drop (x.takeWhile isDg).length = _
        rw [List.drop_append_of_le_length hle, h1]; rfl
    · rw [if_neg hg]; left; decide
/-- To the end. -/
theorem num_end (z : List UInt8) : (∀ n, nm z = some n → numL z = (((n : Nat) : Int), z.length)) ∧ (nm z = none → (numL z).1 < 0 ∨ z.drop (numL z).2 ≠ []) := by
  refine ⟨fun n h => ?_, fun h => ?_⟩
  · obtain ⟨h1, h2⟩ := nm_some h
    have e2 : dg5 z = z := by
      unfold dg5
      rw [tw_same z (good_all h1)]
      exact List.take_of_length_le (by have := ((gdn_iff z).1 h1).2; omega)
    unfold numL
    rw [e2, if_pos h1, h2]
  · unfold numL
    by_cases hg : gdn (dg5 z) = true
    · rw [if_pos hg]
      right
      have hl := gdn_len hg
      have e : dg5 z = z.takeWhile isDg := hl
      rcases tw_drop (p := isDg) z with h1 | ⟨b, r, h1, h2⟩
      · rw [e, h1, nm_none h] at hg; cases hg
      · show z.drop (dg5 z).length ≠ []
        rw [e, h1]; simp
    · rw [if_neg hg]; left; decide
theorem sp_free_all (c : UInt8) : ∀ (l : List UInt8), ∀ x ∈ sp c l, c ∉ x
  | [], x, h => by rw [show sp c [] = [[]] from rfl, List.mem_singleton] at h; subst h; simp
  | b :: l, x, h => by
    by_cases hb : b = c
    · subst hb; rw [sp_hit] at h
      rcases List.mem_cons.1 h with rfl | h
      · simp
      · exact sp_free_all b l x h
    · obtain ⟨y, t, hy⟩ := sp_some c l
      have ih := sp_free_all c l
      rw [hy] at ih
      rw [sp_pass hb hy] at h
      rcases List.mem_cons.1 h with rfl | h
      · have := ih y (by simp)
        simp only [List.mem_cons, not_or]; exact ⟨fun e => hb e.symm, this⟩
      · exact ih x (by simp [h])
/-- A pick by its parts: thread, kind, location. -/
abbrev Pk := Int × Int × Int
def pick2 (n : Int) (y : List UInt8) : List (List UInt8) → Option Pk
  | [] => if y = [115] then some (n, 1, 0) else if y = [102] then some (n, 2, 0) else none
  | [z] => if y = [102] then match nm z with
    | some m => if 0 < m then some (n, 2, (m : Int)) else none
    | none => none
    else none
  | _ :: _ :: _ => none
def pickL (l : List UInt8) : Option Pk := match sp 58 l with
  | x :: y :: t => match nm x with
    | some n => pick2 n y t
    | none => none
  | _ => none
def tailL (n : Int) : List UInt8 → Option Pk
  | [] => some (n, 2, 0)
  | 58 :: r => if (numL r).1 < 1 then none else if r.drop (numL r).2 = [] then some (n, 2, (numL r).1) else none
  | _ :: _ => none
def restL (n : Int) : List UInt8 → Option Pk
  | 58 :: c :: r => if c = 102 then tailL n r else if c = 115 then (if r = [] then some (n, 1, 0) else none) else none
  | _ => none
def wordL (l : List UInt8) : Option Pk := if (numL l).1 < 0 then none else restL (numL l).1 (l.drop (numL l).2)
theorem restL_ne (n : Int) {b : UInt8} {r : List UInt8} (h : b ≠ 58) : restL n (b :: r) = none := by
  unfold restL
  split
  · rename_i heq; cases heq; exact absurd rfl h
  · rfl
theorem tailL_ne (n : Int) {b : UInt8} {r : List UInt8} (h : b ≠ 58) : tailL n (b :: r) = none := by
  unfold tailL
  split
  · rename_i heq; cases heq
  · rename_i heq; cases heq; exact absurd rfl h
  · rfl
theorem tailL_colon (n : Int) (r : List UInt8) : tailL n (58 :: r) = if (numL r).1 < 1 then none else if r.drop (numL r).2 = [] then some (n, 2, (numL r).1) else none := rfl
theorem pick_word (l : List UInt8) : pickL l = wordL l := by
  obtain ⟨x, t, hx⟩ := sp_some 58 l
  have hf := sp_free_all 58 l
  rw [hx] at hf
  have h58 : (58 : UInt8) ∉ x := hf x (by simp)
  rcases sp_parts 58 l x t hx with ⟨rfl, rfl⟩ | ⟨l', rfl, ht⟩
  · -- no colon
    have hp : pickL l = none := by unfold pickL; rw [hx]
    rw [hp]
    unfold wordL
    split
    · rfl
    · have : ∀ r, (l.drop (numL l).2) ≠ 58 :: r := fun r e => h58 (List.mem_of_mem_drop (by rw [e]; simp))
      cases hd : l.drop (numL l).2 with
      | nil => rfl
      | cons b r => exact (restL_ne _ (by rintro rfl; exact this r hd)).symm
  · obtain ⟨c1, c2⟩ := num_colon (x := x) (l := l') h58
    cases hn : nm x with
    | none =>
      have hp : pickL (x ++ 58 :: l') = none := by
        unfold pickL; rw [hx]
        cases t with
        | nil => rfl
        | cons y t => simp only [hn]
      rw [hp]; unfold wordL
      rcases c2 hn with h | ⟨b, r, h1, h2⟩
      · rw [if_pos h]
      · split
        · rfl
        · rw [h1, restL_ne _ h2]
    | some n =>
      have hw : wordL (x ++ 58 :: l') = restL (n : Int) (58 :: l') := by
        unfold wordL
        rw [c1 n hn]
        show (if (n : Int) < 0 then none else restL (n : Int) ((x ++ 58 :: l').drop x.length)) = _
        rw [if_neg (by omega), List.drop_left]
      rw [hw]
      obtain ⟨y, t', hy⟩ := sp_some 58 l'
      rw [hy] at ht; subst ht
      have hy58 : (58 : UInt8) ∉ y := hf y (by simp)
      have hp : pickL (x ++ 58 :: l') = pick2 n y t' := by unfold pickL; rw [hx]; simp only [hn]
      rw [hp]
      rcases sp_parts 58 l' y t' hy with ⟨rfl, rfl⟩ | ⟨l'', rfl, ht⟩
      · -- one colon
        cases l' with
        | nil => rfl
        | cons c r =>
          show (if c :: r = [115] then some ((n : Int), (1 : Int), (0 : Int)) else if c :: r = [102] then some ((n : Int), 2, 0) else none) = if c = 102 then tailL n r else if c = 115 then (if r = [] then some ((n : Int), 1, 0) else none) else none
          simp only [List.cons.injEq]
          by_cases hc : c = 102
          · subst hc
            rw [if_neg (by simp), if_pos rfl]
            cases r with
            | nil => rfl
            | cons b r => rw [if_neg (by simp), tailL_ne _ (by rintro rfl; exact hy58 (by simp))]
          · rw [if_neg hc, if_neg (show ¬ (c = 102 ∧ r = []) from fun h => hc h.1)]
            by_cases hc2 : c = 115
            · subst hc2
              by_cases hr : r = []
              · rw [if_pos ⟨rfl, hr⟩, if_pos rfl, if_pos hr]
              · rw [if_neg (fun h => hr h.2), if_pos rfl, if_neg hr]
            · rw [if_neg (fun h => hc2 h.1), if_neg hc2]
      · obtain ⟨z, t'', hz⟩ := sp_some 58 l''
        rw [hz] at ht; subst ht
        cases y with
        | nil =>
          have e1 : restL (n : Int) (58 :: ([] ++ 58 :: l'')) = none := rfl
          rw [e1]
          cases t'' with
          | nil => simp [pick2]
          | cons _ _ => rfl
        | cons c r =>
          have e1 : restL (n : Int) (58 :: (c :: r ++ 58 :: l'')) = if c = 102 then tailL n (r ++ 58 :: l'') else if c = 115 then (if r ++ 58 :: l'' = [] then some ((n : Int), 1, 0) else none) else none := rfl
          rw [e1]
          by_cases hc : c = 102
          · subst hc
            rw [if_pos rfl]
            cases r with
            | cons b r =>
              rw [List.cons_append, tailL_ne _ (by rintro rfl; exact hy58 (by simp))]
              cases t'' with
              | nil => simp [pick2]
              | cons _ _ => rfl
            | nil =>
              rw [List.nil_append, tailL_colon]
              obtain ⟨d1, d2⟩ := num_end l''
              cases t'' with
              | nil =>
                have hzl : l'' = z := by
                  rcases sp_parts 58 l'' z [] hz with ⟨_, h⟩ | ⟨q, _, h⟩
                  · exact h
                  · obtain ⟨_, _, hq⟩ := sp_some 58 q; rw [hq] at h; cases h
                subst hzl
                simp only [pick2, if_true]
                cases hm : nm l'' with
                | none =>
                  simp only
                  rcases d2 hm with h | h
                  · rw [if_pos (by omega)]
                  · split
                    · rfl
                    · rfl
                | some m =>
                  rw [d1 m hm]
                  simp only [List.drop_length, if_true]
                  by_cases h0 : 0 < m
                  · rw [if_pos h0, if_neg (by omega)]
                  · rw [if_neg h0, if_pos (by omega)]
              | cons u v =>
                simp only [pick2]
                have hin : (58 : UInt8) ∈ l'' := by
                  rcases sp_parts 58 l'' z (u :: v) hz with ⟨h, _⟩ | ⟨q, h, _⟩
                  · cases h
                  · rw [h]; simp
                split
                · rfl
                · rename_i hge
                  have hnm : nm l'' = none := by
                    cases hm : nm l'' with
                    | none => rfl
                    | some m => exact absurd (good_all (nm_some hm).1 58 hin) (by decide)
                  rcases d2 hnm with h | h
                  · omega
                  · rw [if_neg h]
          · rw [if_neg hc]
            have h3 : (if c = 115 then (if r ++ 58 :: l'' = [] then some ((n : Int), (1 : Int), (0 : Int)) else none) else none) = none := by
              split
              · rw [if_neg (by simp)]
              · rfl
            rw [h3]
            cases t'' with
            | nil => simp [pick2, hc]
            | cons _ _ => rfl
end Go.Proofs.YtlapbgeklhinmaaDoor.K
