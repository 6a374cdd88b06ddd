/- Every Text and Parse; ScriptTexts. -/
import Derived.Test.YtlapbgeklhinmaaDoorSN
import Derived.Test.YtlapbgeklhinmaaDoorO
set_option linter.unusedVariables false
set_option linter.unusedSimpArgs false
set_option maxRecDepth 100000
namespace Go.Proofs.YtlapbgeklhinmaaDoor.K
open Go

/-! ### A pick's text -/
def hasB (k : api_Pick) : Bool := (weirref15_has.f k).getD false
def tx (k : api_Pick) : ByteArray := (weirref15_pick.f k).getD ⟨#[]⟩
theorem has_p (k : api_Pick) : weirref15_has.f k = some (hasB k) := by
  unfold hasB weirref15_has.f; (repeat' split) <;> rfl
theorem word_text {v : Int} (h : 0 ≤ v ∧ v ≤ 9999) : word_Text.f v = some (itoaB v) := by
  unfold word_Text.f; rw [format_p (by omega)]; rfl
theorem one_f (k : api_Pick) (h : hasB k = false) : ∃ t, script_one.f k = some (t, false) := by
  have hh := has_p k
  rw [h] at hh
  unfold weirref15_has.f at hh
  unfold script_one.f
  by_cases c1 : k.Thread < 0
  · rw [if_pos (decide_eq_true c1)]; exact ⟨_, rfl⟩
  rw [if_neg (nt (decide_eq_false c1))] at hh ⊢
  by_cases c2 : k.Thread > 9999
  · rw [if_pos (decide_eq_true c2)]; exact ⟨_, rfl⟩
  rw [if_neg (nt (decide_eq_false c2))] at hh ⊢
  by_cases c3 : k.Loc < 0
  · rw [if_pos (decide_eq_true c3)]; exact ⟨_, rfl⟩
  rw [if_neg (nt (decide_eq_false c3))] at hh ⊢
  by_cases c4 : k.Loc > 9999
  · rw [if_pos (decide_eq_true c4)]; exact ⟨_, rfl⟩
  rw [if_neg (nt (decide_eq_false c4))] at hh ⊢
  rw [word_text (by omega)]
  simp only [Option.bind_eq_bind, Option.bind_some]
  by_cases c5 : (k.Kind == 1) = true
  · rw [if_pos c5] at hh ⊢
    by_cases c6 : (k.Loc == 0) = true
    · rw [if_pos c6] at hh; cases hh
    rw [if_neg c6] at hh ⊢
    by_cases c7 : (k.Kind == 2) = true
    · rw [if_pos c7] at hh; cases hh
    rw [if_neg c7] at hh
    rw [if_neg c7, if_neg c7]; exact ⟨_, rfl⟩
  · rw [if_neg c5] at hh ⊢
    by_cases c7 : (k.Kind == 2) = true
    · rw [if_pos c7] at hh; cases hh
    rw [if_neg c7, if_neg c7]; exact ⟨_, rfl⟩
theorem one_t (k : api_Pick) (h : hasB k = true) : script_one.f k = some (tx k, true) ∧ weirref15_pick.f k = some (tx k) ∧ (tx k).size ≤ 60 := by
  have hh := has_p k
  rw [h] at hh
  unfold weirref15_has.f at hh
  by_cases c1 : k.Thread < 0
  · rw [if_pos (decide_eq_true c1)] at hh; cases hh
  rw [if_neg (nt (decide_eq_false c1))] at hh
  by_cases c2 : k.Thread > 9999
  · rw [if_pos (decide_eq_true c2)] at hh; cases hh
  rw [if_neg (nt (decide_eq_false c2))] at hh
  by_cases c3 : k.Loc < 0
  · rw [if_pos (decide_eq_true c3)] at hh; cases hh
  rw [if_neg (nt (decide_eq_false c3))] at hh
  by_cases c4 : k.Loc > 9999
  · rw [if_pos (decide_eq_true c4)] at hh; cases hh
  rw [if_neg (nt (decide_eq_false c4))] at hh
  have z1 := itoa_size (v := k.Thread) (by omega)
  have z2 := itoa_size (v := k.Loc) (by omega)
  have l1 : (⟨#[58, 115]⟩ : ByteArray).size = 2 := rfl
  have l2 : (⟨#[58, 102]⟩ : ByteArray).size = 2 := rfl
  have l3 : (⟨#[58, 102, 58]⟩ : ByteArray).size = 3 := rfl
  have l4 : (⟨#[58]⟩ : ByteArray).size = 1 := rfl
  have g1 : (itoaB k.Thread).size + (⟨#[58, 115]⟩ : ByteArray).size ≤ 9223372036854775807 := by omega
  have g2 : (itoaB k.Thread).size + (⟨#[58, 102]⟩ : ByteArray).size ≤ 9223372036854775807 := by omega
  have g3 : (itoaB k.Thread).size + (⟨#[58, 102, 58]⟩ : ByteArray).size ≤ 9223372036854775807 := by omega
  have g4 : (itoaB k.Thread ++ (⟨#[58, 102, 58]⟩ : ByteArray)).size + (itoaB k.Loc).size ≤ 9223372036854775807 := by rw [sz]; omega
  have g5 : (itoaB k.Thread ++ (⟨#[58, 102]⟩ : ByteArray)).size + (⟨#[58]⟩ : ByteArray).size ≤ 9223372036854775807 := by rw [sz]; omega
  have g6 : ((itoaB k.Thread ++ (⟨#[58, 102]⟩ : ByteArray)) ++ (⟨#[58]⟩ : ByteArray)).size + (itoaB k.Loc).size ≤ 9223372036854775807 := by rw [sz, sz]; omega
  have key : ∃ t, script_one.f k = some (t, true) ∧ weirref15_pick.f k = some t ∧ t.size ≤ 60 := by
    unfold script_one.f weirref15_pick.f
    rw [if_neg (nt (decide_eq_false c1)), if_neg (nt (decide_eq_false c2)), if_neg (nt (decide_eq_false c3)), if_neg (nt (decide_eq_false c4)), word_text (by omega), text_d (by omega), word_text (v := k.Loc) (by omega), text_d (v := k.Loc) (by omega)]
    simp only [Option.bind_eq_bind, Option.bind_some, if_pos g1, if_pos g2, if_pos g3, if_pos g4, if_pos g5, if_pos g6]
    by_cases c5 : (k.Kind == 1) = true
    · have h2 : ¬ (k.Kind == 2) = true := by
        rw [beq_iff_eq] at c5 ⊢; omega
      rw [if_pos c5] at hh
      by_cases c6 : (k.Loc == 0) = true
      · simp only [if_pos c5, if_pos c6, if_neg h2]
        exact ⟨_, rfl, rfl, by rw [sz]; omega⟩
      · rw [if_neg c6, if_neg h2] at hh; cases hh
    · rw [if_neg c5] at hh
      by_cases c7 : (k.Kind == 2) = true
      · by_cases c6 : (k.Loc == 0) = true
        · have c6' : ¬ (k.Loc != 0) = true := by rw [bne_iff_ne, ne_eq, Decidable.not_not]; simpa using c6
          simp only [if_neg c5, if_pos c7, if_pos c6, if_neg c6']
          exact ⟨_, rfl, rfl, by rw [sz]; omega⟩
        · have c6' : (k.Loc != 0) = true := by rw [bne_iff_ne]; simpa using c6
          simp only [if_neg c5, if_pos c7, if_neg c6, if_pos c6']
          refine ⟨_, rfl, ?_, by rw [sz, sz]; omega⟩
          rw [ByteArray.append_assoc (a := itoaB k.Thread) (b := (⟨#[58, 102]⟩ : ByteArray)) (c := (⟨#[58]⟩ : ByteArray))]; rfl
      · rw [if_neg c7] at hh; cases hh
  obtain ⟨t, t1, t2, t3⟩ := key
  have e : tx k = t := by unfold tx; rw [t2]; rfl
  rw [e]; exact ⟨t1, t2, t3⟩
/-! ### Texts put together -/
abbrev bl : ByteArray := ⟨#[32]⟩
def tl (l : List api_Pick) : List ByteArray := l.map tx
/-- The joined bytes. -/
def jn (l : List api_Pick) : List UInt8 := Lib.join ((tl l).map (·.data.toList)) [32]
theorem joinTail_snoc (r : List (List UInt8)) (y : List UInt8) : Lib.joinTail [32] (r ++ [y]) = Lib.joinTail [32] r ++ [32] ++ y := by simp [Lib.joinTail]
theorem jn_snoc (l : List api_Pick) (k : api_Pick) : jn (l ++ [k]) = (if l = [] then [] else jn l ++ [32]) ++ (tx k).data.toList := by
  unfold jn tl
  rw [List.map_append, List.map_append]
  cases l with
  | nil => simp [Lib.join_one]
  | cons a r =>
    rw [if_neg (by simp)]
    simp only [List.map_cons, List.map_nil, List.cons_append]
    rw [Lib.join_cons, joinTail_snoc, Lib.join_cons]
    simp [List.append_assoc]
/-- How many bytes, with one blank more. -/
def wt (l : List api_Pick) : Nat := (l.map fun k => (tx k).size + 1).sum
theorem wt_snoc (l : List api_Pick) (k : api_Pick) : wt (l ++ [k]) = wt l + ((tx k).size + 1) := by simp [wt]
theorem jn_len' : ∀ (n : Nat) (l : List api_Pick), l.length = n → wt l = (if l = [] then 0 else (jn l).length + 1) := by
  intro n
  induction n with
  | zero => intro l hl; rw [List.length_eq_zero_iff.1 hl]; rfl
  | succ n ih =>
    intro l hl
    rcases List.eq_nil_or_concat l with rfl | ⟨l', k, rfl⟩
    · rfl
    · rw [List.concat_eq_append] at hl ⊢
      have := ih l' (by simpa using hl)
      rw [wt_snoc, this, if_neg (show ¬ l' ++ [k] = [] by simp), jn_snoc, List.length_append, ← size_l]
      by_cases h : l' = []
      · rw [if_pos h, if_pos h]; simp
      · rw [if_neg h, if_neg h, List.length_append]; simp; omega
theorem jn_len (l : List api_Pick) : wt l = (if l = [] then 0 else (jn l).length + 1) := jn_len' _ l rfl
theorem wt_ge (l : List api_Pick) : l.length ≤ wt l := by
  induction l with
  | nil => exact Nat.le_refl _
  | cons a r ih => simp only [wt, List.map_cons, List.sum_cons, List.length_cons] at ih ⊢; omega
theorem wt_le (l : List api_Pick) (h : l.all hasB = true) : wt l ≤ 61 * l.length := by
  induction l with
  | nil => exact Nat.le_refl _
  | cons a r ih =>
    rw [List.all_cons, Bool.and_eq_true] at h
    have := ih h.2
    have h2 := (one_t a h.1).2.2
    simp only [wt, List.map_cons, List.sum_cons, List.length_cons] at this ⊢; omega
theorem wt_app (a b : List api_Pick) : wt (a ++ b) = wt a + wt b := by simp [wt]
theorem drop_cons {l : List api_Pick} {i : Nat} (h : i < l.length) : l.drop i = l[i] :: l.drop (i + 1) := List.drop_eq_getElem_cons h
def selT (b : Bool) (acc : List ByteArray) (w : Nat) : Option (Sum ((List ByteArray) × Int) (ByteArray × Int)) := cond b (some (.inl (acc, (w : Int)))) (some (.inr ((⟨#[]⟩ : ByteArray), 150)))
theorem text_pl (l : List api_Pick) (hl : l.length ≤ 6000000000000) : ∀ (m i : Nat) (acc : List ByteArray), i + m = l.length → (l.take i).all hasB = true → (wt (l.take i) ≤ 1048577 → acc = tl (l.take i)) → acc.length ≤ 1048577 →
    ∃ acc', script_Text.l0 l acc (wt (l.take i) : Nat) (i : Int) = selT ((l.drop i).all hasB) acc' (wt l) ∧ (wt l ≤ 1048577 → acc' = tl l) := by
  intro m
  induction m with
  | zero =>
    intro i acc hi ha hacc hlen
    have e : l.take i = l := List.take_of_length_le (by omega)
    have e2 : l.drop i = [] := List.drop_of_length_le (by omega)
    rw [e] at hacc
    rw [e2, script_Text.l0, if_neg (nt (decide_eq_false (by omega))), e]
    exact ⟨_, rfl, hacc⟩
  | succ m ih =>
    intro i acc hi ha hacc hlen
    have hlt : i < l.length := by omega
    have et : l.take (i + 1) = l.take i ++ [l[i]] := by rw [List.take_add_one, List.getElem?_eq_getElem hlt]; rfl
    rw [drop_cons hlt, List.all_cons]
    rw [script_Text.l0, if_pos (decide_eq_true (by omega)), if_pos (by omega), gt_nat hlt]
    cases hb : hasB l[i]
    · obtain ⟨t, h1⟩ := one_f _ hb
      rw [h1]
      exact ⟨tl l, rfl, fun _ => rfl⟩
    · obtain ⟨h1, h2, h3⟩ := one_t _ hb
      rw [h1]
      simp only [Option.bind_eq_bind, Option.bind_some, Bool.true_and, Bool.not_true, Bool.false_eq_true, if_false]
      have hw := wt_le _ ha
      have hw2 : (l.take i).length ≤ i := by rw [List.length_take]; omega
      have hn : IntKind.i64.wrap (((wt (l.take i) : Nat) : Int) + IntKind.i64.wrap (((tx l[i]).size : Int) + 1)) = ((wt (l.take (i + 1)) : Nat) : Int) := by
        rw [et, wt_snoc, wi64_id (n := ((tx l[i]).size : Int) + 1) (by omega) (by omega), wi64_id (by omega) (by omega)]; omega
      rw [hn, w1 (by omega)]
      have ha' : (l.take (i + 1)).all hasB = true := by rw [et, List.all_append, ha]; simp [hb]
      have hmono : wt (l.take i) ≤ wt (l.take (i + 1)) := by rw [et, wt_snoc]; omega
      by_cases hle : ((wt (l.take (i + 1)) : Nat) : Int) ≤ 1048577
      · have hacc' := hacc (by omega)
        have hge := wt_ge (l.take (i + 1))
        have hl1 : (l.take (i + 1)).length = i + 1 := by rw [List.length_take]; omega
        have hla : acc.length = i := by rw [hacc']; unfold tl; rw [List.length_map, List.length_take]; omega
        rw [if_pos (decide_eq_true hle), if_pos (by simp only [List.length_cons, List.length_nil]; omega)]
        have hnx : acc ++ [tx l[i]] = tl (l.take (i + 1)) := by
          rw [et, hacc']; unfold tl; rw [List.map_append]; rfl
        exact ih (i + 1) (acc ++ [tx l[i]]) (by omega) ha' (fun _ => hnx) (by simp only [List.length_append, List.length_cons, List.length_nil]; omega)
      · rw [if_neg (nt (decide_eq_false hle))]
        exact ih (i + 1) acc (by omega) ha' (fun h => absurd h (by omega)) hlen
theorem text_d0 (l : List api_Pick) (hl : l.length ≤ 6000000000000) : ∀ (m i : Nat), i + m = l.length → weirref15_Text.l0 l (i : Int) = cond ((l.drop i).all hasB) (some (.inl ())) (some (.inr ((⟨#[]⟩ : ByteArray), 150))) := by
  intro m
  induction m with
  | zero =>
    intro i hi
    rw [List.drop_of_length_le (by omega), weirref15_Text.l0, if_neg (nt (decide_eq_false (by omega)))]; rfl
  | succ m ih =>
    intro i hi
    have hlt : i < l.length := by omega
    rw [drop_cons hlt, List.all_cons, weirref15_Text.l0, if_pos (decide_eq_true (by omega)), if_pos (by omega), gt_nat hlt, has_p]
    simp only [Option.bind_eq_bind, Option.bind_some]
    cases hb : hasB l[i]
    · simp
    · rw [w1 (by omega)]
      simp only [Bool.not_true, Bool.false_eq_true, if_false, Bool.true_and]
      exact ih (i + 1) (by omega)
def ints (l : List UInt8) : List Int := l.map fun b => (b.toNat : Int)
theorem ints_app (a b : List UInt8) : ints (a ++ b) = ints a ++ ints b := by simp [ints]
theorem ints_len (a : List UInt8) : (ints a).length = a.length := by simp [ints]
theorem ofB_ints (a : List UInt8) : ofBytes (ints a) = ⟨a.toArray⟩ := by
  unfold ofBytes ints
  rw [List.map_map]
  congr 2
  exact (List.map_congr_left (fun b _ => by simp)).trans (List.map_id a)
theorem text_d1 (l : List api_Pick) (hl : l.length ≤ 6000000000000) (hall : l.all hasB = true) : ∀ (m i : Nat), i + m = l.length →
    ∃ r, weirref15_Text.l1 l (ints (jn (l.take i))) (i : Int) = some r ∧ (wt l ≤ 1048577 → r = ints (jn l)) ∧ (1048577 < wt l → 1048576 < r.length) := by
  have hjn := fun i => jn_len (l.take i)
  intro m
  induction m with
  | zero =>
    intro i hi
    have e : l.take i = l := List.take_of_length_le (by omega)
    rw [weirref15_Text.l1, if_neg (nt (decide_eq_false (by omega))), e]
    refine ⟨_, rfl, fun _ => rfl, fun h => ?_⟩
    rw [ints_len]
    have := hjn i
    rw [e] at this
    split at this <;> omega
  | succ m ih =>
    intro i hi
    have hlt : i < l.length := by omega
    have et : l.take (i + 1) = l.take i ++ [l[i]] := by rw [List.take_add_one, List.getElem?_eq_getElem hlt]; rfl
    have hb : hasB l[i] = true := List.all_eq_true.1 hall _ (List.getElem_mem _)
    obtain ⟨h1, h2, h3⟩ := one_t _ hb
    have hsplit : wt l = wt (l.take i) + wt (l.drop i) := by rw [← wt_app, List.take_append_drop]
    have hj := hjn i
    rw [weirref15_Text.l1, if_pos (decide_eq_true (by omega))]
    have hil := ints_len (jn (l.take i))
    generalize hG : (ints (jn (l.take i))) = G at hil ⊢
    rw [hil]
    by_cases hle : ((jn (l.take i)).length : Int) ≤ 1048576
    · rw [if_pos (decide_eq_true hle)]
      have hsz : (strBytes (tx l[i])) = ints (tx l[i]).data.toList := rfl
      have hszl : (ints (tx l[i]).data.toList).length ≤ 60 := by rw [ints_len, ← size_l]; exact h3
      have enext : (if l.take i = [] then [] else jn (l.take i) ++ [32]) ++ (tx l[i]).data.toList = jn (l.take (i + 1)) := by rw [et, jn_snoc]
      by_cases h0 : (i : Int) > 0
      · have hne : l.take i ≠ [] := by
          intro h; have := congrArg List.length h; rw [List.length_take, List.length_nil] at this; omega
        rw [if_neg hne] at enext
        rw [if_pos (decide_eq_true h0), if_pos (show ((jn (l.take i)).length + ([32] : List Int).length) * 1 ≤ 140737488355328 by simp only [List.length_cons, List.length_nil]; omega)]
        simp only [Option.bind_eq_bind, Option.bind_some]
        rw [if_pos (by omega), gt_nat hlt, h2]
        simp only [Option.bind_some]
        have e3 : G ++ ([32] : List Int) = ints (jn (l.take i) ++ [32]) := by rw [← hG, ints_app]; rfl
        rw [hsz, e3, if_pos (by rw [ints_len, List.length_append]; simp only [List.length_cons, List.length_nil]; omega), ← ints_app, enext, w1 (by omega)]
        exact ih (i + 1) (by omega)
      · obtain rfl : i = 0 := by omega
        rw [List.take_zero, if_pos rfl] at enext
        rw [if_neg (nt (decide_eq_false h0))]
        simp only [Option.bind_eq_bind, Option.bind_some]
        rw [if_pos (by omega), gt_nat hlt, h2]
        simp only [Option.bind_some]
        have e0 : G = ints [] := hG.symm
        rw [hsz, e0, if_pos (by show ((0 : Nat) + _) * 1 ≤ _; omega), ← ints_app, enext, w1 (by omega)]
        exact ih (0 + 1) (by omega)
    · rw [if_neg (nt (decide_eq_false hle))]
      refine ⟨_, rfl, fun h => ?_, fun _ => by omega⟩
      split at hj
      · rename_i h0; rw [h0] at hle; exact absurd (show ((jn []).length : Int) ≤ 1048576 by decide) hle
      · omega
theorem texts (l : List api_Pick) (hl : l.length ≤ 6000000000000) : ∃ s e, script_Text.f l = some (s, e) ∧ weirref15_Text.f l = some (s, e) := by
  have p0 := text_pl l hl l.length 0 [] (by omega) rfl (fun _ => rfl) (by simp)
  have d0 := text_d0 l hl l.length 0 (by omega)
  rw [List.drop_zero] at p0 d0
  unfold script_Text.f weirref15_Text.f
  have e0 : ((wt (l.take 0) : Nat) : Int) = 0 := rfl
  rw [e0, show ((0 : Nat) : Int) = 0 from rfl] at p0
  rw [show ((0 : Nat) : Int) = 0 from rfl] at d0
  obtain ⟨acc, h1, h2⟩ := p0
  cases hall : l.all hasB
  · rw [hall] at h1 d0
    rw [h1, d0]; exact ⟨_, _, rfl, rfl⟩
  · rw [hall] at h1 d0
    obtain ⟨r, g1, g2, g3⟩ := text_d1 l hl hall l.length 0 (by omega)
    have ej : ints (jn (l.take 0)) = [] := rfl
    rw [ej, show ((0 : Nat) : Int) = 0 from rfl] at g1
    rw [h1, d0]
    simp only [selT, cond_true, Option.bind_eq_bind, Option.bind_some]
    rw [g1]
    simp only [Option.bind_some]
    have hj := jn_len l
    by_cases hw : wt l ≤ 1048577
    · have hr := g2 hw
      have hjl : (jn l).length ≤ 1048576 := by
        split at hj
        · rename_i h0; rw [h0]; decide
        · omega
      rw [hr, h2 hw, if_neg (nt (decide_eq_false (by omega))), if_neg (nt (decide_eq_false (by rw [ints_len]; omega)))]
      have hge := wt_ge l
      unfold strings_Join.f
      rw [if_pos ⟨by unfold tl; rw [List.length_map]; omega, by show (jn l).length ≤ _; omega⟩]
      simp only [Option.bind_some]
      refine ⟨_, _, rfl, ?_⟩
      rw [ofB_ints]; rfl
    · rw [if_pos (decide_eq_true (by omega)), if_pos (decide_eq_true (by have := g3 (by omega); omega))]
      exact ⟨_, _, rfl, rfl⟩
/-! ### Parse -/
def isB (b : Int) : Bool := (weirref15_blank.f b).getD false
theorem blank_p (b : Int) : weirref15_blank.f b = some (isB b) := by
  unfold isB weirref15_blank.f; (repeat' split) <;> rfl
theorem blank_i (u : UInt8) : (0 ≤ Lib.indexByte [32, 9, 10, 13] u) ↔ isB (u.toNat : Int) = true := by
  have h : ∀ n : Fin 256, (decide (0 ≤ Lib.indexByte [32, 9, 10, 13] (UInt8.ofNat n.1))) = isB ((UInt8.ofNat n.1).toNat : Int) := by decide +kernel
  have := h ⟨u.toNat, u.toNat_lt⟩
  simp only [UInt8.ofNat_toNat] at this
  rw [← this]; simp
theorem byt_u (s : ByteArray) (k : Int) : byt s k = ((s.data.toList.getD k.toNat 0).toNat : Int) := rfl
theorem ib (s : ByteArray) (k : Int) : ∃ r, strings_IndexByte.f (⟨#[32, 9, 10, 13]⟩ : ByteArray) (byt s k) = some r ∧ (0 ≤ r ↔ isB (byt s k) = true) := by
  refine ⟨_, rfl, ?_⟩
  rw [byt_u]
  have : (((s.data.toList.getD k.toNat 0).toNat : Int)).toNat.toUInt8 = s.data.toList.getD k.toNat 0 := by simp
  rw [this]
  exact blank_i _
def plc (s : ByteArray) : Nat → Int × Int
  | 0 => (1, 1)
  | k + 1 => if byt s (k : Int) = 10 then ((plc s k).1 + 1, 1) else ((plc s k).1, (plc s k).2 + 1)
theorem plc_b (s : ByteArray) : ∀ k : Nat, 1 ≤ (plc s k).1 ∧ (plc s k).1 ≤ k + 1 ∧ 1 ≤ (plc s k).2 ∧ (plc s k).2 ≤ k + 1
  | 0 => ⟨by show (1 : Int) ≤ 1; decide, by show (1 : Int) ≤ _; decide, by show (1 : Int) ≤ 1; decide, by show (1 : Int) ≤ _; decide⟩
  | k + 1 => by
    have := plc_b s k
    unfold plc
    split <;> simp only <;> omega
theorem place_l (s : ByteArray) (hs : s.size ≤ 1048576) (a : Nat) (ha : a ≤ s.size) : ∀ (m i : Nat), i + m = a → weirref05_Place.l0 s a (plc s i).1 (plc s i).2 i = some ((plc s a).1, (plc s a).2) := by
  intro m
  induction m with
  | zero => intro i hi; obtain rfl : i = a := by omega
            rw [weirref05_Place.l0, if_neg (nt (decide_eq_false (by omega)))]
  | succ m ih =>
    intro i hi
    have hb := plc_b s i
    rw [weirref05_Place.l0, if_pos (decide_eq_true (by omega)), if_pos (by omega), w1 (by omega)]
    have := ih (i + 1) (by omega)
    by_cases h : byt s (i : Int) = 10
    · rw [if_pos (by simpa using h), wi64_id (by omega) (by omega)]
      rw [plc, if_pos h] at this; exact this
    · rw [if_neg (by simpa using h), wi64_id (by omega) (by omega)]
      rw [plc, if_neg h] at this; exact this
theorem place_f (s : ByteArray) (hs : s.size ≤ 1048576) (a : Nat) (ha : a ≤ s.size) : weirref05_Place.f s a = some ((plc s a).1, (plc s a).2, true) := by
  unfold weirref05_Place.f
  have := place_l s hs a ha a 0 (by omega)
  rw [if_neg (nt (decide_eq_false (by omega))), if_neg (nt (decide_eq_false (by omega)))]
  have e : weirref05_Place.l0 s (a : Int) 1 1 0 = some ((plc s a).1, (plc s a).2) := this
  rw [e]; rfl
theorem not10 {b : Int} (h : isB b = false) : b ≠ 10 := by
  rintro rfl; exact absurd h (by decide)
theorem word_end (s : ByteArray) (hs : s.size ≤ 1048576) : ∀ (m k : Nat), k + m = s.size →
    ∃ e : Nat, k ≤ e ∧ e ≤ s.size ∧ script_Parse.l1 s k = some (e : Int) ∧ weirref15_Parse.l1 s k = some (e : Int) ∧ plc s e = ((plc s k).1, (plc s k).2 + ((e : Int) - k)) ∧ (k < s.size → isB (byt s k) = false → k < e) := by
  intro m
  induction m with
  | zero =>
    intro k hk
    refine ⟨k, Nat.le_refl _, by omega, ?_, ?_, ?_, fun h => by omega⟩
    · rw [script_Parse.l1, if_neg (nt (decide_eq_false (by omega)))]
    · rw [weirref15_Parse.l1, if_neg (nt (decide_eq_false (by omega)))]
    · rw [Int.sub_self, Int.add_zero]
  | succ m ih =>
    intro k hk
    obtain ⟨r, h1, h2⟩ := ib s (k : Int)
    by_cases hb : isB (byt s (k : Int)) = true
    · refine ⟨k, Nat.le_refl _, by omega, ?_, ?_, by rw [Int.sub_self, Int.add_zero], fun _ h => by rw [hb] at h; cases h⟩
      · rw [script_Parse.l1, if_pos (decide_eq_true (by omega)), if_pos (by omega), h1]
        simp only [Option.bind_eq_bind, Option.bind_some]
        rw [if_neg (nt (decide_eq_false (by have := h2.2 hb; omega)))]
      · rw [weirref15_Parse.l1, if_pos (decide_eq_true (by omega)), if_pos (by omega), blank_p, hb]; rfl
    · obtain ⟨e, e1, e2, e3, e4, e5, e6⟩ := ih (k + 1) (by omega)
      have hb' : isB (byt s (k : Int)) = false := by simpa using hb
      refine ⟨e, by omega, e2, ?_, ?_, ?_, fun _ _ => by omega⟩
      · rw [script_Parse.l1, if_pos (decide_eq_true (by omega)), if_pos (by omega), h1]
        simp only [Option.bind_eq_bind, Option.bind_some]
        rw [if_pos (decide_eq_true (by have := mt h2.1 hb; omega)), w1 (by omega), e3]
      · rw [weirref15_Parse.l1, if_pos (decide_eq_true (by omega)), if_pos (by omega), blank_p, hb', w1 (by omega)]
        simp only [Option.bind_eq_bind, Option.bind_some, Bool.not_false, if_true]
        exact e4
      · rw [e5, plc, if_neg (not10 hb')]
        simp only [Prod.mk.injEq, true_and]; omega
theorem parse_l (s : ByteArray) (hs : s.size ≤ 1048576) : ∀ (m k : Nat) (acc : List api_Pick), s.size - k ≤ m → k ≤ s.size → acc.length ≤ k →
    (∃ r : List api_Pick, r.length ≤ s.size ∧ script_Parse.l0 s acc (plc s k).1 (plc s k).2 k = some (.inl r) ∧ weirref15_Parse.l0 s acc k = some (.inl r)) ∨
    (∃ l c : Int, script_Parse.l0 s acc (plc s k).1 (plc s k).2 k = some (.inr ([], .pos l c 150)) ∧ weirref15_Parse.l0 s acc k = some (.inr ([], ⟨l, c, 150⟩))) := by
  intro m
  induction m with
  | zero =>
    intro k acc h1 h2 h3
    left
    refine ⟨acc, by omega, ?_, ?_⟩
    · rw [script_Parse.l0, if_neg (nt (decide_eq_false (by omega)))]
    · rw [weirref15_Parse.l0, if_neg (nt (decide_eq_false (by omega)))]
  | succ m ih =>
    intro k acc h1 h2 h3
    by_cases hlt : k < s.size
    · obtain ⟨r, i1, i2⟩ := ib s (k : Int)
      have hpb := plc_b s k
      rw [script_Parse.l0, weirref15_Parse.l0]
      simp only [if_pos (decide_eq_true (show (k : Int) < (s.size : Int) by omega)), if_pos (show (0 : Int) ≤ (k : Int) ∧ (k : Int) < (s.size : Int) by omega)]
      rw [i1, blank_p]
      simp only [Option.bind_eq_bind, Option.bind_some]
      by_cases hb : isB (byt s (k : Int)) = true
      · rw [if_pos (decide_eq_true (i2.2 hb)), if_pos hb, w1 (by omega)]
        have := ih (k + 1) acc (by omega) (by omega) (by omega)
        by_cases h10 : byt s (k : Int) = 10
        · rw [if_pos (by simpa using h10), wi64_id (by omega) (by omega)]
          rw [plc, if_pos h10] at this; exact this
        · rw [if_neg (by simpa using h10), wi64_id (by omega) (by omega)]
          rw [plc, if_neg h10] at this; exact this
      · have hb' : isB (byt s (k : Int)) = false := by simpa using hb
        rw [if_neg (nt (decide_eq_false (mt i2.1 hb))), if_neg hb]
        obtain ⟨e, e1, e2, e3, e4, e5, e6⟩ := word_end s hs (s.size - k) k (by omega)
        have hke := e6 hlt hb'
        rw [e3, e4]
        simp only [Option.bind_some]
        simp only [if_pos (show (0 : Int) ≤ (k : Int) ∧ (k : Int) ≤ (e : Int) ∧ (e : Int) ≤ (s.size : Int) by omega)]
        obtain ⟨k1, k2, ok, w1', w2', w3'⟩ := words (s.extract (k : Int).toNat (e : Int).toNat) (by rw [ByteArray.size_extract]; omega)
        rw [w1', w2']
        simp only [Option.bind_some]
        cases ok
        · right
          simp only [Bool.not_false, if_true]
          rw [place_f s hs k h2]
          exact ⟨_, _, rfl, rfl⟩
        · obtain rfl := w3' rfl
          simp only [Bool.not_true, Bool.false_eq_true, if_false]
          simp only [if_pos (show (acc.length + ([k1] : List api_Pick).length) * 24 ≤ 140737488355328 by simp only [List.length_cons, List.length_nil]; omega)]
          have := ih e (acc ++ [k1]) (by omega) e2 (by simp only [List.length_append, List.length_cons, List.length_nil]; omega)
          have hpe := plc_b s e
          rw [e5] at this hpe
          simp only at this hpe
          rw [wi64_id (n := (e : Int) - (k : Int)) (by omega) (by omega), wi64_id (by omega) (by omega)]
          exact this
    · left
      refine ⟨acc, by omega, ?_, ?_⟩
      · rw [script_Parse.l0, if_neg (nt (decide_eq_false (by omega)))]
      · rw [weirref15_Parse.l0, if_neg (nt (decide_eq_false (by omega)))]
theorem same_pl (a : List api_Pick) (hs : a.length ≤ 6000000000000) : ∀ (n t : Nat), t + n = a.length → weirlaw11_SamePicks.l0 a a (t : Int) = some (.inl ()) := by
  intro n
  induction n with
  | zero => intro t ht; rw [weirlaw11_SamePicks.l0, if_neg (nt (decide_eq_false (by omega)))]
  | succ n ih =>
    intro t ht
    have g : (0 : Int) ≤ (t : Int) ∧ (t : Int) < (a.length : Int) := by omega
    rw [weirlaw11_SamePicks.l0, if_pos (decide_eq_true (by omega))]
    simp only [if_pos g, w1 (show t < 9223372036854775807 by omega), ih (t + 1) (by omega)]
    rw [if_neg (by simp)]
theorem same_p (a : List api_Pick) (hs : a.length ≤ 6000000000000) : weirlaw11_SamePicks.f a a = some true := by
  unfold weirlaw11_SamePicks.f
  have := same_pl a hs a.length 0 (by omega)
  rw [show (((0 : Nat)) : Int) = (0 : Int) from rfl] at this
  rw [if_neg (by simp), this]; rfl
theorem parses (s : ByteArray) : ∃ l e f, script_Parse.f s = some (l, e) ∧ weirref15_Parse.f s = some (l, f) ∧ weirlaw05_Seen.f e = some f ∧ l.length ≤ 1048576 := by
  unfold script_Parse.f weirref15_Parse.f
  by_cases h : (s.size : Int) > 1048576
  · rw [if_pos (decide_eq_true h), if_pos (decide_eq_true h)]; exact ⟨_, _, _, rfl, rfl, rfl, by simp⟩
  rw [if_neg (nt (decide_eq_false h)), if_neg (nt (decide_eq_false h))]
  rcases parse_l s (by omega) s.size 0 [] (by omega) (by omega) (by simp) with ⟨r, h0, h1, h2⟩ | ⟨l, c, h1, h2⟩
  · have e1 : script_Parse.l0 s [] 1 1 0 = some (.inl r) := h1
    have e2 : weirref15_Parse.l0 s [] 0 = some (.inl r) := h2
    rw [e1, e2]; exact ⟨_, _, _, rfl, rfl, rfl, by omega⟩
  · have e1 : script_Parse.l0 s [] 1 1 0 = some (.inr ([], .pos l c 150)) := h1
    have e2 : weirref15_Parse.l0 s [] 0 = some (.inr ([], ⟨l, c, 150⟩)) := h2
    rw [e1, e2]; exact ⟨_, _, _, rfl, rfl, rfl, by simp⟩
theorem texts_law (l : List api_Pick) (s : ByteArray) (hl : l.length * 24 ≤ reachBytes ∧ ∀ x ∈ l, ok_api_Pick x) (hs : s.size ≤ reachBytes) : weirlaw15_ScriptTexts.f l s = some true := by
  have hb : l.length * 24 ≤ 140737488351232 := hl.1
  unfold weirlaw15_ScriptTexts.f
  have e1 : (((([] : List api_Pick) ++ l) ++ ([(⟨5, 0, 0⟩ : api_Pick)] : List api_Pick)).take ((l.length : Int).toNat)).drop 0 = l := by
    rw [Int.toNat_natCast, List.nil_append, List.take_append_of_le_length (Nat.le_refl _), List.take_length]; rfl
  have q1 : (([] : List api_Pick).length + l.length) * 24 ≤ 140737488355328 := by simp only [List.length_nil]; omega
  have q2 : ((([] : List api_Pick) ++ l).length + ([(⟨5, 0, 0⟩ : api_Pick)] : List api_Pick).length) * 24 ≤ 140737488355328 := by simp only [List.length_append, List.length_cons, List.length_nil]; omega
  have hcl : ((([] : List api_Pick) ++ l) ++ ([(⟨5, 0, 0⟩ : api_Pick)] : List api_Pick)).length = l.length + 1 := by simp
  have q3 : (0 : Int) ≤ (l.length : Int) ∧ (l.length : Int) ≤ (((([] : List api_Pick) ++ l) ++ ([(⟨5, 0, 0⟩ : api_Pick)] : List api_Pick)).length : Int) := by omega
  have q5 : (0 : Int) ≤ (l.length : Int) ∧ (l.length : Int) < (((([] : List api_Pick) ++ l) ++ ([(⟨5, 0, 0⟩ : api_Pick)] : List api_Pick)).length : Int) := by omega
  have e2 : gt ((([] : List api_Pick) ++ l) ++ ([(⟨5, 0, 0⟩ : api_Pick)] : List api_Pick)) (l.length : Int) = (⟨5, 0, 0⟩ : api_Pick) := by
    rw [gt_nat (by omega), List.getElem_append_right (by simp)]; simp
  obtain ⟨t, e, t1, t2⟩ := texts l (by omega)
  obtain ⟨p, pe, pf, p1, p2, p3, p4⟩ := parses s
  simp only [if_pos q1, if_pos q2, if_pos q3, if_pos q5, e1, e2]
  rw [t1, t2, p1, p2]
  simp only [Option.bind_eq_bind, Option.bind_some]
  rw [seq_p, if_pos (decide_eq_true rfl), if_pos (by simp), same_p p (by omega), same_p l (by omega), p3]
  simp only [Option.bind_some]
  simp only [decide_true, if_true]
  rw [if_pos (by decide)]
end Go.Proofs.YtlapbgeklhinmaaDoor.K
