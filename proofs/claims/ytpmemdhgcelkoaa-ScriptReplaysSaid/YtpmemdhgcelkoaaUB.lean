/- Every Replay, Outcome, Taken and Straight; ScriptReplays. -/
import Derived.Test.YtpmemdhgcelkoaaFZ
import Derived.Test.YtpmemdhgcelkoaaO
set_option linter.unusedVariables false
set_option linter.unusedSimpArgs false
set_option maxRecDepth 100000
namespace Go.Proofs.Ytpmemdhgcelkoaa.K
open Go

theorem nt {b : Bool} (h : b = false) : ¬ b = true := by simp [h]
theorem gt_nat {α : Type} [Inhabited α] {xs : List α} {t : Nat} (h : t < xs.length) : gt xs (t : Int) = xs[t] := by
  unfold gt; rw [Int.toNat_natCast, List.getD_eq_getElem?_getD, List.getElem?_eq_getElem h]; rfl
theorem w1 {t : Nat} (h : t < 9223372036854775807) : IntKind.i64.wrap ((t : Int) + 1) = ((t + 1 : Nat) : Int) := by rw [wi64_id (by omega) (by omega)]; omega
theorem gt_mem {α : Type} [Inhabited α] {xs : List α} {i : Int} (h : 0 ≤ i ∧ i < (xs.length : Int)) : gt xs i ∈ xs := by
  obtain ⟨n, rfl⟩ : ∃ n : Nat, i = (n : Int) := ⟨i.toNat, by omega⟩
  rw [gt_nat (by omega)]
  exact List.getElem_mem _
theorem bytR (s : ByteArray) (i : Int) : 0 ≤ byt s i ∧ byt s i ≤ 255 := by
  unfold byt
  have := (s.data.toList.getD i.toNat 0).toNat_lt
  omega
theorem number_s (s : ByteArray) (g : weirlaw15_Graph) : ∃ n, weirlaw15_Graph__Machine_1.f s g = some n ∧ (n < 0 ∨ 0 ≤ n ∧ n < (g.To.length : Int)) := by
  unfold weirlaw15_Graph__Machine_1.f
  by_cases h : s.size = 1
  · have hw : IntKind.i64.wrap (byt s (0 : Int)) = byt s (0 : Int) := by have := bytR s 0; exact wi64_id (by omega) (by omega)
    have q : (0 : Int) ≤ (0 : Int) ∧ (0 : Int) < (s.size : Int) := by omega
    rw [if_neg (by simp [h])]
    simp only [if_pos q, hw]
    by_cases h2 : byt s (0 : Int) ≥ (g.To.length : Int)
    · rw [if_pos (decide_eq_true h2)]; exact ⟨_, rfl, .inl (by omega)⟩
    · rw [if_neg (nt (decide_eq_false h2))]; exact ⟨_, rfl, .inr ⟨(bytR s 0).1, by omega⟩⟩
  · rw [if_pos (by simp; omega)]; exact ⟨_, rfl, .inl (by omega)⟩
theorem eta_g (g : weirlaw15_Graph) : (⟨g.To, g.Ends, g.Odd, g.Holes⟩ : weirlaw15_Graph) = g := rfl
theorem end_s (s : ByteArray) (g : weirlaw15_Graph) : ∃ r, weirlaw15_Graph__Machine_4.f s g = some r := by
  obtain ⟨n, h1, h2⟩ := number_s s g
  unfold weirlaw15_Graph__Machine_4.f
  rw [eta_g, h1]
  simp only [Option.bind_eq_bind, Option.bind_some]
  by_cases c1 : n < 0
  · rw [if_pos (decide_eq_true c1)]; exact ⟨_, rfl⟩
  rw [if_neg (nt (decide_eq_false c1))]
  by_cases c2 : n > 63
  · rw [if_pos (decide_eq_true c2)]; exact ⟨_, rfl⟩
  rw [if_neg (nt (decide_eq_false c2)), if_pos (by rw [wu64]; omega)]
  split <;> exact ⟨_, rfl⟩
theorem step_s (s : ByteArray) (k : api_Pick) (g : weirlaw15_Graph) : ∃ r, weirlaw15_Graph__Machine_3.f s k g = some r := by
  obtain ⟨n, h1, h2⟩ := number_s s g
  unfold weirlaw15_Graph__Machine_3.f
  rw [eta_g, h1]
  simp only [Option.bind_eq_bind, Option.bind_some]
  by_cases c1 : n < 0
  · rw [if_pos (decide_eq_true c1)]; exact ⟨_, rfl⟩
  rw [if_neg (nt (decide_eq_false c1))]
  have hn : 0 ≤ n ∧ n < (g.To.length : Int) := by omega
  simp only [if_pos hn]
  split
  · exact ⟨_, rfl⟩
  split
  · exact ⟨_, rfl⟩
  by_cases c2 : k.Thread < 0
  · rw [if_pos (decide_eq_true c2)]; exact ⟨_, rfl⟩
  rw [if_neg (nt (decide_eq_false c2))]
  by_cases c3 : k.Thread ≥ ((gt g.To n).length : Int)
  · rw [if_pos (decide_eq_true c3)]; exact ⟨_, rfl⟩
  rw [if_neg (nt (decide_eq_false c3)), if_pos (by omega)]
  split <;> exact ⟨_, rfl⟩
theorem same_pl (a : List api_Pick) (hs : a.length ≤ 100000) : ∀ (n t : Nat), t + n = a.length → weirlaw11_SamePicks.l0 a a (t : Int) = some (.inl ()) := by
  intro n
  induction n with
  | zero =>
    intro t ht
    rw [weirlaw11_SamePicks.l0, if_neg (nt (decide_eq_false (by omega)))]
  | succ n ih =>
    intro t ht
    have g : (0 : Int) ≤ (t : Int) ∧ (t : Int) < (a.length : Int) := by omega
    rw [weirlaw11_SamePicks.l0, if_pos (decide_eq_true g.2), if_pos g, if_pos g, if_neg (by simp), w1 (by omega), ih (t + 1) (by omega)]
theorem same_p (a : List api_Pick) (hs : a.length ≤ 100000) : weirlaw11_SamePicks.f a a = some true := by
  unfold weirlaw11_SamePicks.f
  have := same_pl a hs a.length 0 (by omega)
  rw [show (((0 : Nat)) : Int) = (0 : Int) from rfl] at this
  rw [if_neg (by simp), this]; rfl
theorem machine_s (g : weirlaw15_Graph) : ∃ t b c d, weirlaw15_Graph__Machine.f g = some (t, b, g, c, d) := by
  unfold weirlaw15_Graph__Machine.f
  cases (band .i64 g.Holes 1) == 0 <;> cases (band .i64 g.Holes 2) == 0 <;> cases (band .i64 g.Holes 4) == 0 <;> exact ⟨_, _, _, _, rfl⟩
theorem seq_self (x : ByteArray) : seq x x = true := by unfold seq; simp

theorem seq_p (x y : ByteArray) : seq x y = decide (x = y) := by
  unfold seq
  by_cases h : x = y
  · subst h; simp
  · rw [decide_eq_false h, ByteArray.toList_eq, ByteArray.toList_eq]
    refine Bool.eq_false_iff.2 (fun e => h ?_)
    obtain ⟨a⟩ := x
    obtain ⟨b⟩ := y
    rw [beq_iff_eq] at e
    exact congrArg ByteArray.mk (Array.toList_inj.1 e)
/-! ### One machine -/
section
variable (s0 : ByteArray) (p st e : Bool) (g : weirlaw15_Graph)
def stepv (s : ByteArray) (k : api_Pick) : ByteArray × Bool := (script_step.f s0 p g st e s k).getD (s, false)
theorem step_both (s : ByteArray) (k : api_Pick) : script_step.f s0 p (⟨g.To, g.Ends, g.Odd, g.Holes⟩ : weirlaw15_Graph) st e s k = some (stepv s0 p st e g s k) ∧ weirref15_step.f s0 p (⟨g.To, g.Ends, g.Odd, g.Holes⟩ : weirlaw15_Graph) st e s k = some (stepv s0 p st e g s k) := by
  rw [eta_g]
  unfold stepv
  obtain ⟨⟨u, b⟩, hr⟩ := step_s s k g
  unfold script_step.f weirref15_step.f
  rw [eta_g, hr]
  cases st
  · exact ⟨rfl, rfl⟩
  · exact ⟨rfl, rfl⟩
def nxt (s : ByteArray) (k : api_Pick) : ByteArray := if (stepv s0 p st e g s k).2 = true then (stepv s0 p st e g s k).1 else s
def runS : List api_Pick → ByteArray → List ByteArray
  | [], _ => []
  | k :: l, s => nxt s0 p st e g s k :: runS l (nxt s0 p st e g s k)
def runT : List api_Pick → ByteArray → List Bool
  | [], _ => []
  | k :: l, s => (stepv s0 p st e g s k).2 :: runT l (nxt s0 p st e g s k)
def lastS : List api_Pick → ByteArray → ByteArray
  | [], s => s
  | k :: l, s => lastS l (nxt s0 p st e g s k)
def tkn : List api_Pick → ByteArray → List api_Pick
  | [], _ => []
  | k :: l, s => if (stepv s0 p st e g s k).2 = true then k :: tkn l (nxt s0 p st e g s k) else tkn l (nxt s0 p st e g s k)
theorem runS_len : ∀ (l : List api_Pick) (s : ByteArray), (runS s0 p st e g l s).length = l.length
  | [], _ => rfl
  | k :: l, s => by simp [runS, runS_len l]
theorem runT_len : ∀ (l : List api_Pick) (s : ByteArray), (runT s0 p st e g l s).length = l.length
  | [], _ => rfl
  | k :: l, s => by simp [runT, runT_len l]
theorem tkn_len : ∀ (l : List api_Pick) (s : ByteArray), (tkn s0 p st e g l s).length ≤ l.length
  | [], _ => Nat.le_refl _
  | k :: l, s => by
    have := tkn_len l (nxt s0 p st e g s k)
    simp only [tkn]
    split <;> simp only [List.length_cons] <;> omega
theorem gt_mid {α : Type} [Inhabited α] (pre : List α) (x : α) (r : List α) : gt (pre ++ x :: r) (pre.length : Int) = x := by
  rw [gt_nat (by simp)]; simp
theorem setl_mid {α : Type} (pre : List α) (x y : α) (r : List α) : setl (pre ++ x :: r) (pre.length : Int) y = pre ++ y :: r := by
  unfold setl
  rw [Int.toNat_natCast]; simp
theorem replay_l : ∀ (r pre : List api_Pick) (acc : List ByteArray) (s : ByteArray) (tk : List Bool), tk.length = pre.length → acc.length ≤ pre.length + 1 → (pre ++ r).length ≤ 100000 →
    script_Replay.l0 s0 p g st e (pre ++ r) acc s (pre.length : Int) (tk ++ List.replicate r.length false) = some (acc ++ runS s0 p st e g r s, tk ++ runT s0 p st e g r s)
  | [], pre, acc, s, tk, h1, h2, h3 => by
    rw [script_Replay.l0, if_neg (nt (decide_eq_false (by simp)))]
    simp [runS, runT]
  | k :: r, pre, acc, s, tk, h1, h2, h3 => by
    have hl : (pre ++ k :: r).length = pre.length + (r.length + 1) := by simp
    have q : (0 : Int) ≤ (pre.length : Int) ∧ (pre.length : Int) < ((pre ++ k :: r).length : Int) := by omega
    have q2 : (0 : Int) ≤ (pre.length : Int) ∧ (pre.length : Int) < ((tk ++ List.replicate (k :: r).length false).length : Int) := by simp only [List.length_append, List.length_replicate, List.length_cons]; omega
    have qa : ∀ z : ByteArray, (acc.length + ([z] : List ByteArray).length) * 16 ≤ 140737488355328 := by intro z; simp only [List.length_cons, List.length_nil]; omega
    have hs := (step_both s0 p st e g s k).1
    have ih := replay_l r (pre ++ [k]) (acc ++ [nxt s0 p st e g s k]) (nxt s0 p st e g s k) (tk ++ [(stepv s0 p st e g s k).2]) (by simp [h1]) (by simp only [List.length_append, List.length_cons, List.length_nil]; omega) (by simp only [List.append_assoc, List.singleton_append]; exact h3)
    simp only [List.append_assoc, List.singleton_append, List.length_append, List.length_cons, List.length_nil] at ih
    rw [script_Replay.l0, if_pos (decide_eq_true q.2), if_pos q, gt_mid, hs]
    simp only [Option.bind_eq_bind, Option.bind_some, w1 (show pre.length < 9223372036854775807 by omega)]
    simp only [runS, runT]
    unfold nxt at ih ⊢
    revert ih
    obtain ⟨u, b⟩ := stepv s0 p st e g s k
    cases b
    · intro ih
      simp only [Bool.false_eq_true, if_false, Option.bind_some, if_pos (qa _)] at ih ⊢
      rw [List.length_cons, List.replicate_succ]
      exact ih
    · intro ih
      simp only [if_true, if_pos q2, Option.bind_some, if_pos (qa _)] at ih ⊢
      rw [List.length_cons, List.replicate_succ]
      have := setl_mid tk false true (List.replicate r.length false)
      rw [h1] at this
      rw [this]
      exact ih
theorem replay_s (l : List api_Pick) (hl : l.length ≤ 100000) : script_Replay.f s0 p g st e l = some (s0 :: runS s0 p st e g l s0, runT s0 p st e g l s0) := by
  unfold script_Replay.f
  have := replay_l s0 p st e g l [] [s0] s0 [] rfl (by simp) (by simpa using hl)
  simp only [List.nil_append, List.length_nil] at this
  rw [if_pos (by omega), Int.toNat_natCast, show (0 : Int) = ((0 : Nat) : Int) from rfl, this]
  rfl
theorem rreplay_l : ∀ (r pre : List api_Pick) (ac : List ByteArray) (s : ByteArray) (tk : List Bool), tk.length = pre.length → ac.length = pre.length → (pre ++ r).length ≤ 100000 →
    weirref15_Replay.l0 s0 p g st e (pre ++ r) (ac ++ [s]) tk (pre.length : Int) = some ((ac ++ [s]) ++ runS s0 p st e g r s, tk ++ runT s0 p st e g r s)
  | [], pre, ac, s, tk, h1, h2, h3 => by
    rw [weirref15_Replay.l0, if_neg (nt (decide_eq_false (by simp)))]
    simp [runS, runT]
  | k :: r, pre, ac, s, tk, h1, h2, h3 => by
    have hl : (pre ++ k :: r).length = pre.length + (r.length + 1) := by simp
    have q : (0 : Int) ≤ (pre.length : Int) ∧ (pre.length : Int) < ((pre ++ k :: r).length : Int) := by omega
    have q2 : (0 : Int) ≤ (pre.length : Int) ∧ (pre.length : Int) < ((ac ++ [s]).length : Int) := by simp only [List.length_append, List.length_cons, List.length_nil]; omega
    have qa : ∀ z : ByteArray, ((ac ++ [s]).length + ([z] : List ByteArray).length) * 16 ≤ 140737488355328 := by intro z; simp only [List.length_append, List.length_cons, List.length_nil]; omega
    have qb : ∀ z : Bool, (tk.length + ([z] : List Bool).length) * 1 ≤ 140737488355328 := by intro z; simp only [List.length_cons, List.length_nil]; omega
    have hs := (step_both s0 p st e g s k).2
    have hg : gt (ac ++ [s]) (pre.length : Int) = s := by rw [← h2]; exact gt_mid ac s []
    have ih := rreplay_l r (pre ++ [k]) (ac ++ [s]) (nxt s0 p st e g s k) (tk ++ [(stepv s0 p st e g s k).2]) (by simp [h1]) (by simp [h2]) (by simp only [List.append_assoc, List.singleton_append]; exact h3)
    simp only [List.append_assoc, List.singleton_append, List.length_append, List.length_cons, List.length_nil] at ih
    rw [weirref15_Replay.l0, if_pos (decide_eq_true q.2), if_pos q2, if_pos q, gt_mid, hg, hs]
    simp only [Option.bind_eq_bind, Option.bind_some, w1 (show pre.length < 9223372036854775807 by omega)]
    simp only [runS, runT]
    unfold nxt at ih ⊢
    revert ih
    obtain ⟨u, b⟩ := stepv s0 p st e g s k
    cases b
    · intro ih
      simp only [Bool.false_eq_true, if_false, Option.bind_some, if_pos (qa _), if_pos (qb _), List.append_assoc, List.singleton_append] at ih ⊢
      exact ih
    · intro ih
      simp only [if_true, Option.bind_some, if_pos (qa _), if_pos (qb _), List.append_assoc, List.singleton_append] at ih ⊢
      exact ih
theorem rreplay_s (l : List api_Pick) (hl : l.length ≤ 100000) : weirref15_Replay.f s0 p g st e l = some (s0 :: runS s0 p st e g l s0, runT s0 p st e g l s0) := by
  unfold weirref15_Replay.f
  have := rreplay_l s0 p st e g l [] [] s0 [] rfl rfl (by simpa using hl)
  simp only [List.nil_append, List.length_nil] at this
  rw [show (0 : Int) = ((0 : Nat) : Int) from rfl, this]
  rfl
theorem outcome_l : ∀ (r pre : List api_Pick) (s : ByteArray), (pre ++ r).length ≤ 100000 → script_Outcome.l0 s0 p g st e (pre ++ r) s (pre.length : Int) = some (lastS s0 p st e g r s)
  | [], pre, s, h3 => by
    rw [script_Outcome.l0, if_neg (nt (decide_eq_false (by simp)))]; rfl
  | k :: r, pre, s, h3 => by
    have hl : (pre ++ k :: r).length = pre.length + (r.length + 1) := by simp
    have q : (0 : Int) ≤ (pre.length : Int) ∧ (pre.length : Int) < ((pre ++ k :: r).length : Int) := by omega
    have ih := outcome_l r (pre ++ [k]) (nxt s0 p st e g s k) (by simp only [List.append_assoc, List.singleton_append]; exact h3)
    simp only [List.append_assoc, List.singleton_append, List.length_append, List.length_cons, List.length_nil] at ih
    rw [script_Outcome.l0, if_pos (decide_eq_true q.2), if_pos q, gt_mid, (step_both s0 p st e g s k).1]
    simp only [Option.bind_eq_bind, Option.bind_some, w1 (show pre.length < 9223372036854775807 by omega), lastS]
    unfold nxt at ih ⊢
    revert ih
    obtain ⟨u, b⟩ := stepv s0 p st e g s k
    cases b
    · intro ih; exact ih
    · intro ih; exact ih
theorem last_run : ∀ (l : List api_Pick) (s : ByteArray), gt (s :: runS s0 p st e g l s) (l.length : Int) = lastS s0 p st e g l s
  | [], s => by rw [gt_nat (by simp)]; rfl
  | k :: l, s => by
    have := last_run l (nxt s0 p st e g s k)
    rw [gt_nat (by simp [runS_len])] at this ⊢
    simp only [List.length_cons, runS, lastS, List.getElem_cons_succ]
    exact this
theorem outcome_both (l : List api_Pick) (hl : l.length ≤ 100000) : ∃ r, script_Outcome.f s0 p g st e l = some r ∧ weirref15_Outcome.f s0 p g st e l = some r := by
  have h1 := outcome_l s0 p st e g l [] s0 (by simpa using hl)
  simp only [List.nil_append, List.length_nil] at h1
  rw [show (((0 : Nat)) : Int) = (0 : Int) from rfl] at h1
  obtain ⟨⟨f, b⟩, he⟩ := end_s (lastS s0 p st e g l s0) g
  have hr := rreplay_s s0 p st e g l hl
  have hlen : (s0 :: runS s0 p st e g l s0).length = l.length + 1 := by simp [runS_len]
  have hw : IntKind.i64.wrap (((s0 :: runS s0 p st e g l s0).length : Int) - 1) = (l.length : Int) := by rw [hlen, wi64_id (by omega) (by omega)]; omega
  unfold script_Outcome.f weirref15_Outcome.f
  rw [eta_g, hr, h1]
  simp only [Option.bind_eq_bind, Option.bind_some]
  have q : (0 : Int) ≤ (l.length : Int) ∧ (l.length : Int) < ((s0 :: runS s0 p st e g l s0).length : Int) := by omega
  rw [hw, if_pos q, last_run, he]
  unfold weirref15_end.f
  rw [eta_g, he]
  cases e
  · exact ⟨_, rfl, rfl⟩
  · exact ⟨_, rfl, rfl⟩
theorem taken_l : ∀ (r pre : List api_Pick) (tk : List Bool) (acc : List api_Pick) (s : ByteArray), tk.length = pre.length → acc.length ≤ pre.length → (pre ++ r).length ≤ 100000 →
    script_Taken.l0 (pre ++ r) (tk ++ runT s0 p st e g r s) acc (pre.length : Int) = some (acc ++ tkn s0 p st e g r s) ∧ weirref15_Taken.l0 (pre ++ r) (tk ++ runT s0 p st e g r s) acc (pre.length : Int) = some (acc ++ tkn s0 p st e g r s)
  | [], pre, tk, acc, s, h1, h2, h3 => by
    rw [script_Taken.l0, weirref15_Taken.l0, if_neg (nt (decide_eq_false (by simp))), if_neg (nt (decide_eq_false (by simp)))]
    simp [tkn]
  | k :: r, pre, tk, acc, s, h1, h2, h3 => by
    have hl : (pre ++ k :: r).length = pre.length + (r.length + 1) := by simp
    have q : (0 : Int) ≤ (pre.length : Int) ∧ (pre.length : Int) < ((pre ++ k :: r).length : Int) := by omega
    have q2 : (0 : Int) ≤ (pre.length : Int) ∧ (pre.length : Int) < ((tk ++ runT s0 p st e g (k :: r) s).length : Int) := by simp only [List.length_append, runT_len, List.length_cons]; omega
    have qa : ∀ z : api_Pick, (acc.length + ([z] : List api_Pick).length) * 24 ≤ 140737488355328 := by intro z; simp only [List.length_cons, List.length_nil]; omega
    have hg : gt (tk ++ runT s0 p st e g (k :: r) s) (pre.length : Int) = (stepv s0 p st e g s k).2 := by rw [← h1]; exact gt_mid _ _ _
    have ih0 := fun ac ha => taken_l r (pre ++ [k]) (tk ++ [(stepv s0 p st e g s k).2]) ac (nxt s0 p st e g s k) (by simp [h1]) ha (by simp only [List.append_assoc, List.singleton_append]; exact h3)
    simp only [List.append_assoc, List.singleton_append, List.length_append, List.length_cons, List.length_nil] at ih0
    rw [script_Taken.l0, weirref15_Taken.l0, if_pos (decide_eq_true q.2), if_pos (decide_eq_true q.2)]
    simp only [if_pos q, if_pos q2, hg, gt_mid, if_pos (qa _), w1 (show pre.length < 9223372036854775807 by omega)]
    simp only [tkn, runT] at ih0 ⊢
    cases hb : (stepv s0 p st e g s k).2
    · rw [hb] at ih0
      have := ih0 acc (by omega)
      simp only [Bool.false_eq_true, if_false]
      exact this
    · rw [hb] at ih0
      have := ih0 (acc ++ [k]) (by simp only [List.length_append, List.length_cons, List.length_nil]; omega)
      simp only [if_true]
      simp only [List.append_assoc, List.singleton_append] at this
      exact this
theorem taken_both (l : List api_Pick) (hl : l.length ≤ 100000) : script_Taken.f s0 p g st e l = some (tkn s0 p st e g l s0) ∧ weirref15_Taken.f s0 p g st e l = some (tkn s0 p st e g l s0) := by
  have h := taken_l s0 p st e g l [] [] [] s0 rfl (Nat.le_refl _) (by simpa using hl)
  simp only [List.nil_append, List.length_nil] at h
  unfold script_Taken.f weirref15_Taken.f
  rw [eta_g, replay_s s0 p st e g l hl, rreplay_s s0 p st e g l hl]
  simp only [Option.bind_eq_bind, Option.bind_some]
  rw [show (0 : Int) = ((0 : Nat) : Int) from rfl, h.1, h.2]
  exact ⟨rfl, rfl⟩
end
/-! ### Without rounds -/
def LastAt (S : List ByteArray) (x : ByteArray) (n : Nat) : Prop := S[n]? = some x ∧ ∀ j, n < j → S[j]? ≠ some x
theorem LastAt.lt {S : List ByteArray} {x : ByteArray} {n : Nat} (h : LastAt S x n) : n < S.length := (List.getElem?_eq_some_iff.1 h.1).1
theorem LastAt.uniq {S : List ByteArray} {x : ByteArray} {n m : Nat} (h : LastAt S x n) (k : LastAt S x m) : n = m := by
  rcases Nat.lt_trichotomy n m with h1 | h1 | h1
  · exact absurd k.1 (h.2 m h1)
  · exact h1
  · exact absurd h.1 (k.2 n h1)
theorem map_l (S : List ByteArray) (hS : S.length ≤ 100000) : ∀ (n t : Nat) (m : List (ByteArray × Int)), t + n = S.length → (∀ x, match mget m x with | some v => ∃ q : Nat, v = (q : Int) ∧ LastAt (S.take t) x q | none => ∀ j : Nat, (S.take t)[j]? ≠ some x) →
    ∃ m', script_Straight.l0 S (t : Int) m = some m' ∧ ∀ x, match mget m' x with | some v => ∃ q : Nat, v = (q : Int) ∧ LastAt S x q | none => ∀ j : Nat, S[j]? ≠ some x := by
  intro n
  induction n with
  | zero =>
    intro t m ht hm
    rw [script_Straight.l0, if_neg (nt (decide_eq_false (by omega)))]
    rw [List.take_of_length_le (by omega)] at hm
    exact ⟨m, rfl, hm⟩
  | succ n ih =>
    intro t m ht hm
    have h1 : t < S.length := by omega
    have g : (0 : Int) ≤ (t : Int) ∧ (t : Int) < (S.length : Int) := by omega
    rw [script_Straight.l0, if_pos (decide_eq_true g.2), if_pos g, gt_nat h1, w1 (by omega)]
    refine ih (t + 1) _ (by omega) (fun x => ?_)
    rw [mget_mput]
    have hget : ∀ j, (S.take (t + 1))[j]? = if j < t + 1 then S[j]? else none := fun j => by rw [List.getElem?_take]
    have hget0 : ∀ j, (S.take t)[j]? = if j < t then S[j]? else none := fun j => by rw [List.getElem?_take]
    by_cases hx : S[t] = x
    · rw [if_pos hx]
      refine ⟨t, rfl, ?_, fun j hj => ?_⟩
      · rw [hget, if_pos (by omega), List.getElem?_eq_getElem h1, hx]
      · rw [hget, if_neg (by omega)]; simp
    · rw [if_neg hx]
      have := hm x
      have hne : S[t]? ≠ some x := by rw [List.getElem?_eq_getElem h1]; simpa using hx
      revert this
      cases mget m x with
      | none =>
        intro this j
        rw [hget]
        split
        · rcases Nat.lt_or_ge j t with h | h
          · have h2 := this j
            rw [hget0, if_pos h] at h2; exact h2
          · have : j = t := by omega
            subst this; exact hne
        · simp
      | some v =>
        rintro ⟨q, rfl, h2, h3⟩
        rw [hget0] at h2
        split at h2
        · refine ⟨q, rfl, by rw [hget, if_pos (by omega)]; exact h2, fun j hj => ?_⟩
          rw [hget]
          split
          · rcases Nat.lt_or_ge j t with h | h
            · have h4 := h3 j hj
              rw [hget0, if_pos h] at h4; exact h4
            · have : j = t := by omega
              subst this; exact hne
          · simp
        · cases h2
theorem find_l (X : List ByteArray) (hX : X.length ≤ 100000) (i : Nat) (hi : i < X.length) : ∀ (n k cur : Nat), k + n = X.length → i < k → i ≤ cur → cur < k → X[cur]? = X[i]? → (∀ j, cur < j → j < k → X[j]? ≠ X[i]?) →
    ∃ r : Nat, weirref15_Straight.l1 X (i : Int) (cur : Int) (k : Int) = some (r : Int) ∧ i ≤ r ∧ r < X.length ∧ X[r]? = X[i]? ∧ ∀ j, r < j → j < X.length → X[j]? ≠ X[i]? := by
  intro n
  induction n with
  | zero =>
    intro k cur hk h1 h2 h3 h4 h5
    rw [weirref15_Straight.l1, if_neg (nt (decide_eq_false (by omega)))]
    exact ⟨cur, rfl, h2, by omega, h4, fun j hj hl => h5 j hj (by omega)⟩
  | succ n ih =>
    intro k cur hk h1 h2 h3 h4 h5
    have hkl : k < X.length := by omega
    have g1 : (0 : Int) ≤ (k : Int) ∧ (k : Int) < (X.length : Int) := by omega
    have g2 : (0 : Int) ≤ (i : Int) ∧ (i : Int) < (X.length : Int) := by omega
    rw [weirref15_Straight.l1, if_pos (decide_eq_true g1.2), if_pos g1, if_pos g2, gt_nat hkl, gt_nat hi, seq_p, w1 (by omega)]
    by_cases he : X[k] = X[i]
    · rw [if_pos (decide_eq_true he)]
      exact ih (k + 1) k (by omega) (by omega) (by omega) (by omega) (by rw [List.getElem?_eq_getElem hkl, List.getElem?_eq_getElem hi, he]) (fun j hj hl => by omega)
    · rw [if_neg (nt (decide_eq_false he))]
      refine ih (k + 1) cur (by omega) (by omega) h2 (by omega) h4 (fun j hj hl => ?_)
      rcases Nat.lt_or_ge j k with h | h
      · exact h5 j hj h
      · have : j = k := by omega
        subst this
        rw [List.getElem?_eq_getElem hkl, List.getElem?_eq_getElem hi]
        simpa using he
theorem straight_l (L : List api_Pick) (S : List ByteArray) (m : List (ByteArray × Int)) (hL : L.length ≤ 10000) (hS : S.length = L.length + 1) (hm : ∀ x, match mget m x with | some v => ∃ q : Nat, v = (q : Int) ∧ LastAt S x q | none => ∀ j : Nat, S[j]? ≠ some x) :
    ∀ (n c c' : Nat) (x : ByteArray) (out : List api_Pick) (pre : List ByteArray), S.length - c ≤ n → c < S.length → S[c]? = some x → LastAt S x c' → pre.length = out.length → out.length ≤ c →
      ∃ res, script_Straight.l1 L S m out (c' : Int) = some res ∧ weirref15_Straight.l0 (out ++ L.drop c) (pre ++ S.drop c) (out.length : Int) = some res ∧ res.length ≤ 10000 := by
  intro n
  induction n with
  | zero => intro c c' x out pre h1 h2 h3 h4 h5 h6; omega
  | succ n ih =>
    intro c c' x out pre h1 h2 h3 h4 h5 h6
    have hc' := h4.lt
    have hcc : c ≤ c' := by
      rcases Nat.lt_or_ge c' c with h | h
      · exact absurd h3 (h4.2 c h)
      · exact h
    -- the reference's place
    have hXl : (pre ++ S.drop c).length = out.length + (S.length - c) := by simp [h5]
    have hXget : ∀ j, out.length ≤ j → (pre ++ S.drop c)[j]? = S[c + (j - out.length)]? := by
      intro j hj
      rw [List.getElem?_append_right (by omega), List.getElem?_drop, h5]
    obtain ⟨r, r1, r2, r3, r4, r5⟩ := find_l (pre ++ S.drop c) (by omega) out.length (by omega) ((pre ++ S.drop c).length - (out.length + 1)) (out.length + 1) out.length (by omega) (by omega) (Nat.le_refl _) (by omega) rfl (fun j hj hl => by omega)
    have hx0 : (pre ++ S.drop c)[out.length]? = some x := by rw [hXget _ (Nat.le_refl _), Nat.sub_self, Nat.add_zero]; exact h3
    have hr : c + (r - out.length) = c' := by
      refine LastAt.uniq (S := S) (x := x) ⟨?_, fun j hj hjs => ?_⟩ h4
      · rw [hXget r r2, hx0] at r4; exact r4
      · have hjl := (List.getElem?_eq_some_iff.1 hjs).1
        have := r5 (out.length + (j - c)) (by omega) (by omega)
        rw [hXget _ (by omega), hx0, show c + (out.length + (j - c) - out.length) = j by omega] at this
        exact this hjs
    have hLl : (out ++ L.drop c).length = out.length + (L.length - c) := by simp
    -- the lists behind the cut
    have cutL : (([] : List api_Pick) ++ ((out ++ L.drop c).take out.length)) ++ (((out ++ L.drop c).drop r).take ((out ++ L.drop c).length - r)) = out ++ L.drop c' := by
      rw [List.nil_append, List.take_append_of_le_length (Nat.le_refl _), List.take_length]
      congr 1
      rw [List.take_of_length_le (by rw [List.length_drop]; exact Nat.le_refl _), List.drop_append, List.drop_of_length_le r2, List.nil_append, List.drop_drop]
      congr 1 <;> omega
    have cutS : (([] : List ByteArray) ++ ((pre ++ S.drop c).take out.length)) ++ (((pre ++ S.drop c).drop r).take ((pre ++ S.drop c).length - r)) = pre ++ S.drop c' := by
      rw [List.nil_append, ← h5, List.take_append_of_le_length (Nat.le_refl _), List.take_length]
      congr 1
      rw [List.take_of_length_le (by rw [List.length_drop]; exact Nat.le_refl _), List.drop_append, List.drop_of_length_le (by omega), List.nil_append, List.drop_drop]
      congr 1 <;> omega
    have step : weirref15_Straight.l0 (out ++ L.drop c) (pre ++ S.drop c) (out.length : Int) = weirref15_Straight.l0 (out ++ L.drop c') (pre ++ S.drop c') ((out.length + 1 : Nat) : Int) := by
      rw [weirref15_Straight.l0, if_pos (decide_eq_true (by omega)), w1 (by omega), r1]
      simp only [Option.bind_eq_bind, Option.bind_some]
      by_cases hro : r = out.length
      · have : c' = c := by omega
        subst this
        rw [if_neg (nt (decide_eq_false (by omega)))]
      · rw [if_pos (decide_eq_true (by omega)), if_pos (by omega)]
        simp only [Int.toNat_natCast]
        rw [if_pos (by simp only [List.length_nil, List.length_take]; omega), if_pos (by omega), if_pos (by rw [← List.length_append, cutS]; simp only [List.length_append, List.length_drop]; omega), if_pos (by omega), if_pos (by simp only [List.length_nil, List.length_take]; omega), if_pos (by omega), if_pos (by rw [← List.length_append, cutL]; simp only [List.length_append, List.length_drop]; omega), cutL, cutS]
    rw [step]
    by_cases hend : c' < L.length
    · -- one more
      have hL1 : L.drop c' = L[c'] :: L.drop (c' + 1) := List.drop_eq_getElem_cons hend
      have hS1 : S.drop c' = S[c'] :: S.drop (c' + 1) := List.drop_eq_getElem_cons hc'
      have hn : c' + 1 < S.length := by omega
      have hmx := hm (S[c' + 1])
      obtain ⟨q, hq, hlast⟩ : ∃ q : Nat, mget m S[c' + 1] = some (q : Int) ∧ LastAt S S[c' + 1] q := by
        cases hg : mget m S[c' + 1] with
        | none => rw [hg] at hmx; exact absurd (List.getElem?_eq_getElem hn) (hmx (c' + 1))
        | some v => rw [hg] at hmx; obtain ⟨q, rfl, h⟩ := hmx; exact ⟨q, rfl, h⟩
      have g : (0 : Int) ≤ (c' : Int) ∧ (c' : Int) < (L.length : Int) := by omega
      have gs : (0 : Int) ≤ ((c' + 1 : Nat) : Int) ∧ ((c' + 1 : Nat) : Int) < (S.length : Int) := by omega
      rw [script_Straight.l1, if_pos (decide_eq_true g.2), if_pos g, gt_nat hend, if_pos (by simp only [List.length_cons, List.length_nil]; omega), w1 (by omega), if_pos gs, gt_nat hn, hq, Option.getD_some, hL1, hS1]
      have := ih (c' + 1) q S[c' + 1] (out ++ [L[c']]) (pre ++ [S[c']]) (by omega) hn (List.getElem?_eq_getElem hn) hlast (by simp [h5]) (by simp only [List.length_append, List.length_cons, List.length_nil]; omega)
      simp only [List.append_assoc, List.singleton_append, List.length_append, List.length_cons, List.length_nil] at this ⊢
      exact this
    · have hce : c' = L.length := by omega
      rw [script_Straight.l1, if_neg (nt (decide_eq_false (by omega))), weirref15_Straight.l0, if_neg (nt (decide_eq_false (by simp only [List.length_append, List.length_drop]; omega)))]
      rw [hce, List.drop_length, List.append_nil]
      exact ⟨out, rfl, rfl, by omega⟩
theorem straight_both (s0 : ByteArray) (p st e : Bool) (g : weirlaw15_Graph) (l : List api_Pick) (hl : l.length ≤ 10000) : ∃ r, script_Straight.f s0 p g st e l = some r ∧ weirref15_Straight.f s0 p g st e l = some r ∧ r.length ≤ 10000 := by
  have ht := taken_both s0 p st e g l (by omega)
  have hlen := tkn_len s0 p st e g l s0
  unfold script_Straight.f weirref15_Straight.f
  rw [eta_g, ht.1, ht.2]
  simp only [Option.bind_eq_bind, Option.bind_some]
  generalize tkn s0 p st e g l s0 = L at *
  rw [replay_s s0 p st e g L (by omega), rreplay_s s0 p st e g L (by omega)]
  simp only [Option.bind_some]
  have hS : (s0 :: runS s0 p st e g L s0).length = L.length + 1 := by simp [runS_len]
  obtain ⟨m, h1, h2⟩ := map_l (s0 :: runS s0 p st e g L s0) (by omega) (L.length + 1) 0 [] (by omega) (fun x => by simp [mget])
  rw [show (((0 : Nat)) : Int) = (0 : Int) from rfl] at h1
  rw [h1]
  simp only [Option.bind_some]
  obtain ⟨q, hq, hlast⟩ : ∃ q : Nat, mget m s0 = some (q : Int) ∧ LastAt (s0 :: runS s0 p st e g L s0) s0 q := by
    have hmx := h2 s0
    cases hg : mget m s0 with
    | none => rw [hg] at hmx; exact absurd rfl (hmx 0)
    | some v => rw [hg] at hmx; obtain ⟨q, rfl, h⟩ := hmx; exact ⟨q, rfl, h⟩
  rw [hq, Option.getD_some]
  obtain ⟨r, r1, r2, r3⟩ := straight_l L _ m (by omega) hS h2 (L.length + 1) 0 q s0 [] [] (by omega) (by omega) rfl hlast rfl (Nat.le_refl _)
  simp only [List.nil_append, List.drop_zero, List.length_nil] at r2
  rw [show (((0 : Nat)) : Int) = (0 : Int) from rfl] at r2
  rw [r1, r2]
  exact ⟨r, rfl, rfl, r3⟩
theorem same_tl (a : List ByteArray) (hs : a.length ≤ 100000) : ∀ (n t : Nat), t + n = a.length → weirlaw15_sameTexts.l0 a a (t : Int) = some (.inl ()) := by
  intro n
  induction n with
  | zero => intro t ht; rw [weirlaw15_sameTexts.l0, if_neg (nt (decide_eq_false (by omega)))]
  | succ n ih =>
    intro t ht
    have g : (0 : Int) ≤ (t : Int) ∧ (t : Int) < (a.length : Int) := by omega
    rw [weirlaw15_sameTexts.l0, if_pos (decide_eq_true g.2), if_pos g, if_pos g, seq_self, if_neg (by simp), w1 (by omega), ih (t + 1) (by omega)]
theorem same_t (a : List ByteArray) (hs : a.length ≤ 100000) : weirlaw15_sameTexts.f a a = some true := by
  unfold weirlaw15_sameTexts.f
  have := same_tl a hs a.length 0 (by omega)
  rw [show (((0 : Nat)) : Int) = (0 : Int) from rfl] at this
  rw [if_neg (by simp), this]; rfl
theorem same_bl (a : List Bool) (hs : a.length ≤ 100000) : ∀ (n t : Nat), t + n = a.length → weirlaw15_sameBools.l0 a a (t : Int) = some (.inl ()) := by
  intro n
  induction n with
  | zero => intro t ht; rw [weirlaw15_sameBools.l0, if_neg (nt (decide_eq_false (by omega)))]
  | succ n ih =>
    intro t ht
    have g : (0 : Int) ≤ (t : Int) ∧ (t : Int) < (a.length : Int) := by omega
    rw [weirlaw15_sameBools.l0, if_pos (decide_eq_true g.2)]
    simp only [if_pos g, w1 (show t < 9223372036854775807 by omega), ih (t + 1) (by omega)]
    cases gt a (t : Int) <;> simp
theorem same_b (a : List Bool) (hs : a.length ≤ 100000) : weirlaw15_sameBools.f a a = some true := by
  unfold weirlaw15_sameBools.f
  have := same_bl a hs a.length 0 (by omega)
  rw [show (((0 : Nat)) : Int) = (0 : Int) from rfl] at this
  rw [if_neg (by simp), this]; rfl
theorem spoil0 : ∀ (n t : Nat) (l : List api_Pick), t + n = l.length → l.length ≤ 100000 → weirlaw15_ScriptReplays.l0 (t : Int) l = some () := by
  intro n
  induction n with
  | zero => intro t l ht hl; rw [weirlaw15_ScriptReplays.l0, if_neg (nt (decide_eq_false (by omega)))]
  | succ n ih =>
    intro t l ht hl
    rw [weirlaw15_ScriptReplays.l0, if_pos (decide_eq_true (by omega)), if_pos (by omega), w1 (by omega), ih (t + 1) _ (by rw [setl_len]; omega) (by rw [setl_len]; omega)]
theorem spoil1 : ∀ (n t : Nat) (l : List api_Pick), t + n = l.length → l.length ≤ 100000 → weirlaw15_ScriptReplays.l1 (t : Int) l = some () := by
  intro n
  induction n with
  | zero => intro t l ht hl; rw [weirlaw15_ScriptReplays.l1, if_neg (nt (decide_eq_false (by omega)))]
  | succ n ih =>
    intro t l ht hl
    rw [weirlaw15_ScriptReplays.l1, if_pos (decide_eq_true (by omega)), if_pos (by omega), w1 (by omega), ih (t + 1) _ (by rw [setl_len]; omega) (by rw [setl_len]; omega)]
theorem replays_law (g : weirlaw15_Graph) (l : List api_Pick) {h1 h2 : Prop} (_ : h1) (_ : h2) : weirlaw15_ScriptReplays.f g l = some true := by
  unfold weirlaw15_ScriptReplays.f weirlaw15_Graph__small.f
  rw [eta_g]
  by_cases c : ¬ (g.To.length : Int) ≤ 200
  · rw [if_neg (nt (decide_eq_false c))]; rfl
  rw [Decidable.not_not] at c
  rw [if_pos (decide_eq_true c)]
  simp only [Option.bind_eq_bind, Option.bind_some, Bool.not_true, Bool.false_eq_true, if_false]
  by_cases c2 : (l.length : Int) > 2000
  · rw [if_pos (decide_eq_true c2)]
  rw [if_neg (nt (decide_eq_false c2))]
  obtain ⟨s0, p, st, e, hm⟩ := machine_s g
  rw [hm]
  simp only [Option.bind_some]
  have e1 : (((([] : List api_Pick) ++ l) ++ ([(⟨5, 0, 0⟩ : api_Pick)] : List api_Pick)).take ((l.length : Int).toNat)) = l := by
    rw [Int.toNat_natCast, List.nil_append, List.take_append_of_le_length (Nat.le_refl _), List.take_length]
  have q1 : (([] : List api_Pick).length + l.length) * 24 ≤ 140737488355328 := by simp only [List.length_nil]; omega
  have q2 : ((([] : List api_Pick) ++ l).length + ([(⟨5, 0, 0⟩ : api_Pick)] : List api_Pick).length) * 24 ≤ 140737488355328 := by simp only [List.length_append, List.length_cons, List.length_nil]; omega
  have hcl : ((([] : List api_Pick) ++ l) ++ ([(⟨5, 0, 0⟩ : api_Pick)] : List api_Pick)).length = l.length + 1 := by simp
  have q3 : (0 : Int) ≤ (l.length : Int) ∧ (l.length : Int) ≤ (((([] : List api_Pick) ++ l) ++ ([(⟨5, 0, 0⟩ : api_Pick)] : List api_Pick)).length : Int) := by omega
  have q4 : (l.length : Int).toNat ≤ ((([] : List api_Pick) ++ l) ++ ([(⟨5, 0, 0⟩ : api_Pick)] : List api_Pick)).length := by omega
  have q5 : (0 : Int) ≤ (l.length : Int) ∧ (l.length : Int) < (((([] : List api_Pick) ++ l) ++ ([(⟨5, 0, 0⟩ : api_Pick)] : List api_Pick)).length : Int) := by omega
  have e2 : gt ((([] : List api_Pick) ++ l) ++ ([(⟨5, 0, 0⟩ : api_Pick)] : List api_Pick)) (l.length : Int) = (⟨5, 0, 0⟩ : api_Pick) := by rw [List.nil_append]; exact gt_mid l _ []
  have hl : l.length ≤ 2000 := by omega
  have tk := taken_both s0 p st e g l (by omega)
  have tl := tkn_len s0 p st e g l s0
  obtain ⟨o, o1, o2⟩ := outcome_both s0 p st e g l (by omega)
  obtain ⟨r, r1, r2, r3⟩ := straight_both s0 p st e g l (by omega)
  have hrl := runS_len s0 p st e g l s0
  have htl := runT_len s0 p st e g l s0
  have z0 := spoil0 (tkn s0 p st e g l s0).length 0 (tkn s0 p st e g l s0) (by omega) (by omega)
  have z1 := spoil1 r.length 0 r (by omega) (by omega)
  rw [show (((0 : Nat)) : Int) = (0 : Int) from rfl] at z0 z1
  simp only [if_pos q1, if_pos q2, if_pos q3, if_pos q4, if_pos q5, e1, e2, eta_g]
  rw [replay_s s0 p st e g l (by omega), rreplay_s s0 p st e g l (by omega), o1, o2, tk.1, tk.2, r1, r2]
  simp only [Option.bind_some]
  rw [same_t _ (by simp only [List.length_cons]; omega), same_b _ (by omega), same_p _ (by omega), same_p _ (by omega), same_p _ (by omega), z0, z1]
  simp only [Option.bind_some, Bool.not_true, Bool.false_eq_true, if_false, decide_true, beq_self_eq_true, if_true]
end Go.Proofs.Ytpmemdhgcelkoaa.K
