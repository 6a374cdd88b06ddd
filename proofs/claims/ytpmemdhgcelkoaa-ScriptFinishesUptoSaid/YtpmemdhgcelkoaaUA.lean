/- Every Finish; ScriptFinishes. -/
import Derived.Test.YtpmemdhgcelkoaaFZ
import Derived.Test.YtpmemdhgcelkoaaO
set_option linter.unusedVariables false
set_option linter.unusedSimpArgs false
set_option maxRecDepth 100000
namespace Go.Proofs.Ytpmemdhgcelkoaa.K
open Go

theorem nt {b : Bool} (h : b = false) : ¬ b = true := by simp [h]
theorem gt_nat {α : Type} [Inhabited α] {xs : List α} {t : Nat} (h : t < xs.length) : gt xs (t : Int) = xs[t] := by
  unfold gt; rw [Int.toNat_natCast, List.getD_eq_getElem?_getD, List.getElem?_eq_getElem h]; rfl
theorem w1 {t : Nat} (h : t < 9223372036854775807) : IntKind.i64.wrap ((t : Int) + 1) = ((t + 1 : Nat) : Int) := by rw [wi64_id (by omega) (by omega)]; omega
theorem gt_mem {α : Type} [Inhabited α] {xs : List α} {i : Int} (h : 0 ≤ i ∧ i < (xs.length : Int)) : gt xs i ∈ xs := by
  obtain ⟨n, rfl⟩ : ∃ n : Nat, i = (n : Int) := ⟨i.toNat, by omega⟩
  rw [gt_nat (by omega)]
  exact List.getElem_mem _
/-- A table whose rows have a length that a machine can hold. -/
def Sized (g : weirlaw15_Graph) : Prop := ∀ r ∈ g.To, r.length ≤ 536870912
theorem bytR (s : ByteArray) (i : Int) : 0 ≤ byt s i ∧ byt s i ≤ 255 := by
  unfold byt
  have := (s.data.toList.getD i.toNat 0).toNat_lt
  omega
theorem number_s (s : ByteArray) (g : weirlaw15_Graph) : ∃ n, weirlaw15_Graph__Machine_1.f s g = some n ∧ (n < 0 ∨ 0 ≤ n ∧ n < (g.To.length : Int)) := by
  unfold weirlaw15_Graph__Machine_1.f
  by_cases h : s.size = 1
  · have hw : IntKind.i64.wrap (byt s (0 : Int)) = byt s (0 : Int) := by have := bytR s 0; exact wi64_id (by omega) (by omega)
    have q : (0 : Int) ≤ (0 : Int) ∧ (0 : Int) < (s.size : Int) := by omega
    rw [if_neg (by simp [h])]
    simp only [if_pos q, hw]
    by_cases h2 : byt s (0 : Int) ≥ (g.To.length : Int)
    · rw [if_pos (decide_eq_true h2)]; exact ⟨_, rfl, .inl (by omega)⟩
    · rw [if_neg (nt (decide_eq_false h2))]; exact ⟨_, rfl, .inr ⟨(bytR s 0).1, by omega⟩⟩
  · rw [if_pos (by simp; omega)]; exact ⟨_, rfl, .inl (by omega)⟩
theorem eta_g (g : weirlaw15_Graph) : (⟨g.To, g.Ends, g.Odd, g.Holes⟩ : weirlaw15_Graph) = g := rfl
theorem end_s (s : ByteArray) (g : weirlaw15_Graph) : ∃ r, weirlaw15_Graph__Machine_4.f s g = some r := by
  obtain ⟨n, h1, h2⟩ := number_s s g
  unfold weirlaw15_Graph__Machine_4.f
  rw [eta_g, h1]
  simp only [Option.bind_eq_bind, Option.bind_some]
  by_cases c1 : n < 0
  · rw [if_pos (decide_eq_true c1)]; exact ⟨_, rfl⟩
  rw [if_neg (nt (decide_eq_false c1))]
  by_cases c2 : n > 63
  · rw [if_pos (decide_eq_true c2)]; exact ⟨_, rfl⟩
  rw [if_neg (nt (decide_eq_false c2)), if_pos (by rw [wu64]; omega)]
  split <;> exact ⟨_, rfl⟩
theorem picks_l (g : weirlaw15_Graph) (hg : Sized g) (n : Int) (hn : 0 ≤ n ∧ n < (g.To.length : Int)) : ∀ (m t : Nat) (acc : List api_Pick), t + m = (gt g.To n).length → acc.length ≤ t + 1 → ∃ l, weirlaw15_Graph__Machine_2.l0 g n acc (t : Int) = some l := by
  have hl := hg _ (gt_mem hn)
  intro m
  induction m with
  | zero =>
    intro t acc ht ha
    rw [weirlaw15_Graph__Machine_2.l0, if_pos hn, if_neg (nt (decide_eq_false (by omega)))]; exact ⟨_, rfl⟩
  | succ m ih =>
    intro t acc ht ha
    rw [weirlaw15_Graph__Machine_2.l0, if_pos hn, if_pos (decide_eq_true (by omega)), if_pos (by simp only [List.length_cons, List.length_nil]; omega), w1 (by omega)]
    exact ih (t + 1) _ (by omega) (by simp only [List.length_append, List.length_cons, List.length_nil]; omega)
theorem picks_s (s : ByteArray) (g : weirlaw15_Graph) (hg : Sized g) : ∃ l, weirlaw15_Graph__Machine_2.f s g = some l := by
  obtain ⟨n, h1, h2⟩ := number_s s g
  unfold weirlaw15_Graph__Machine_2.f
  rw [eta_g, h1]
  simp only [Option.bind_eq_bind, Option.bind_some]
  by_cases c1 : n < 0
  · rw [if_pos (decide_eq_true c1)]; exact ⟨_, rfl⟩
  rw [if_neg (nt (decide_eq_false c1))]
  have hn : 0 ≤ n ∧ n < (g.To.length : Int) := by omega
  have key : ∀ acc : List api_Pick, acc.length ≤ 1 → ∃ l, weirlaw15_Graph__Machine_2.l0 g n acc 0 = some l := fun acc ha => by
    have := picks_l g hg n hn (gt g.To n).length 0 acc (by omega) (by omega)
    rwa [show (((0 : Nat)) : Int) = (0 : Int) from rfl] at this
  cases g.Odd
  · obtain ⟨l, hl⟩ := key [] (by simp)
    simp only [Bool.false_eq_true, if_false, Option.bind_some]
    rw [hl]; exact ⟨_, rfl⟩
  · obtain ⟨l, hl⟩ := key ([] ++ [(⟨99, 1, 0⟩ : api_Pick)]) (by simp)
    rw [if_pos rfl, if_pos (by simp)]
    simp only [Option.bind_some]
    rw [hl]; exact ⟨_, rfl⟩
theorem step_s (s : ByteArray) (k : api_Pick) (g : weirlaw15_Graph) : ∃ r, weirlaw15_Graph__Machine_3.f s k g = some r := by
  obtain ⟨n, h1, h2⟩ := number_s s g
  unfold weirlaw15_Graph__Machine_3.f
  rw [eta_g, h1]
  simp only [Option.bind_eq_bind, Option.bind_some]
  by_cases c1 : n < 0
  · rw [if_pos (decide_eq_true c1)]; exact ⟨_, rfl⟩
  rw [if_neg (nt (decide_eq_false c1))]
  have hn : 0 ≤ n ∧ n < (g.To.length : Int) := by omega
  simp only [if_pos hn]
  split
  · exact ⟨_, rfl⟩
  split
  · exact ⟨_, rfl⟩
  by_cases c2 : k.Thread < 0
  · rw [if_pos (decide_eq_true c2)]; exact ⟨_, rfl⟩
  rw [if_neg (nt (decide_eq_false c2))]
  by_cases c3 : k.Thread ≥ ((gt g.To n).length : Int)
  · rw [if_pos (decide_eq_true c3)]; exact ⟨_, rfl⟩
  rw [if_neg (nt (decide_eq_false c3)), if_pos (by omega)]
  split <;> exact ⟨_, rfl⟩
theorem finish_l (s0 : ByteArray) (p e st : Bool) (g : weirlaw15_Graph) (hg : Sized g) (most : Int) (hm : most ≤ 3000) : ∀ (m : Nat) (s : ByteArray) (acc : List api_Pick), (most - (acc.length : Int)).toNat ≤ m → acc.length ≤ 3000 →
    ∃ r, script_Finish.l0 s0 p g st e most s acc = some r ∧ weirref15_Finish.l0 s0 p g st e most s acc = some r ∧ r.2.length ≤ 3000 := by
  intro m
  induction m with
  | zero =>
    intro s acc h1 h2
    rw [script_Finish.l0, weirref15_Finish.l0, if_neg (nt (decide_eq_false (by omega))), if_neg (nt (decide_eq_false (by omega)))]
    exact ⟨_, rfl, rfl, h2⟩
  | succ m ih =>
    intro s acc h1 h2
    rw [script_Finish.l0, weirref15_Finish.l0]
    by_cases c0 : ¬ (acc.length : Int) < most
    · rw [if_neg (nt (decide_eq_false c0)), if_neg (nt (decide_eq_false c0))]
      exact ⟨_, rfl, rfl, h2⟩
    rw [Decidable.not_not] at c0
    rw [if_pos (decide_eq_true c0), if_pos (decide_eq_true c0)]
    obtain ⟨⟨ef, eb⟩, he⟩ := end_s s g
    obtain ⟨l, hl⟩ := picks_s s g hg
    have he2 : weirref15_end.f s0 p (⟨g.To, g.Ends, g.Odd, g.Holes⟩ : weirlaw15_Graph) st e s = some (if e = true then (ef, eb) else ((⟨0, (Vector.replicate 48 0)⟩ : api_Final), false)) := by
      unfold weirref15_end.f
      rw [eta_g, he]
      cases e <;> rfl
    have hstep : ∀ k : api_Pick, ∃ u b, script_step.f s0 true (⟨g.To, g.Ends, g.Odd, g.Holes⟩ : weirlaw15_Graph) st e s k = some (u, b) ∧ weirref15_step.f s0 true (⟨g.To, g.Ends, g.Odd, g.Holes⟩ : weirlaw15_Graph) st e s k = some (u, b) := by
      intro k
      obtain ⟨⟨u, b⟩, hr⟩ := step_s s k g
      unfold script_step.f weirref15_step.f
      rw [eta_g, hr]
      cases st
      · exact ⟨_, _, rfl, rfl⟩
      · exact ⟨_, _, rfl, rfl⟩
    rw [he2, eta_g, he, hl]
    simp only [Option.bind_eq_bind, Option.bind_some]
    have key : ∃ r, (if p = true then (if ((l.length : Int) == 0) = true then some ((s, acc)) else (if 0 ≤ (0 : Int) ∧ (0 : Int) < (l.length : Int) then (Option.bind (script_step.f s0 true (⟨g.To, g.Ends, g.Odd, g.Holes⟩ : weirlaw15_Graph) st e s (gt l (0 : Int))) (fun (t78, t79) => (if (!t79) = true then some ((s, acc)) else (if 0 ≤ (0 : Int) ∧ (0 : Int) < (l.length : Int) then (if (acc.length + ([(gt l (0 : Int))] : List api_Pick).length) * 24 ≤ 140737488355328 then (script_Finish.l0 s0 p g st e most t78 (acc ++ ([(gt l (0 : Int))] : List api_Pick))) else none) else none)))) else none)) else some ((s, acc))) = some r ∧
      (if p = true then (if ((l.length : Int) == 0) = true then some ((s, acc)) else (if 0 ≤ (0 : Int) ∧ (0 : Int) < (l.length : Int) then (Option.bind (weirref15_step.f s0 true (⟨g.To, g.Ends, g.Odd, g.Holes⟩ : weirlaw15_Graph) st e s (gt l (0 : Int))) (fun (t78, t79) => (if (!t79) = true then some ((s, acc)) else (if 0 ≤ (0 : Int) ∧ (0 : Int) < (l.length : Int) then (if (acc.length + ([(gt l (0 : Int))] : List api_Pick).length) * 24 ≤ 140737488355328 then (weirref15_Finish.l0 s0 p g st e most t78 (acc ++ ([(gt l (0 : Int))] : List api_Pick))) else none) else none)))) else none)) else some ((s, acc))) = some r ∧ r.2.length ≤ 3000 := by
      cases p
      · exact ⟨_, rfl, rfl, h2⟩
      rw [if_pos rfl, if_pos rfl]
      by_cases c1 : l.length = 0
      · rw [if_pos (by simp [c1]), if_pos (by simp [c1])]; exact ⟨_, rfl, rfl, h2⟩
      have cne : ((l.length : Int) == 0) = false := beq_eq_false_iff_ne.2 (by omega)
      rw [if_neg (nt cne), if_neg (nt cne)]
      have q : (0 : Int) ≤ (0 : Int) ∧ (0 : Int) < (l.length : Int) := by omega
      obtain ⟨u, b, hs1, hs2⟩ := hstep (gt l (0 : Int))
      simp only [if_pos q]
      rw [hs1, hs2]
      simp only [Option.bind_some]
      cases b
      · exact ⟨_, rfl, rfl, h2⟩
      have qq : (acc.length + ([(gt l (0 : Int))] : List api_Pick).length) * 24 ≤ 140737488355328 := by simp only [List.length_cons, List.length_nil]; omega
      simp only [Bool.not_true, Bool.false_eq_true, if_false, if_pos qq]
      exact ih u _ (by simp only [List.length_append, List.length_cons, List.length_nil]; omega) (by simp only [List.length_append, List.length_cons, List.length_nil]; omega)
    cases e
    · simp only [Bool.false_eq_true, if_false, Option.bind_some]
      exact key
    · simp only [if_true, Option.bind_some]
      cases eb
      · simp only [Bool.false_eq_true, if_false, Option.bind_some]
        exact key
      · simp only [if_true, Option.bind_some]
        exact ⟨_, rfl, rfl, h2⟩
theorem same_pl (a : List api_Pick) (hs : a.length ≤ 100000) : ∀ (n t : Nat), t + n = a.length → weirlaw11_SamePicks.l0 a a (t : Int) = some (.inl ()) := by
  intro n
  induction n with
  | zero =>
    intro t ht
    rw [weirlaw11_SamePicks.l0, if_neg (nt (decide_eq_false (by omega)))]
  | succ n ih =>
    intro t ht
    have g : (0 : Int) ≤ (t : Int) ∧ (t : Int) < (a.length : Int) := by omega
    rw [weirlaw11_SamePicks.l0, if_pos (decide_eq_true g.2), if_pos g, if_pos g, if_neg (by simp), w1 (by omega), ih (t + 1) (by omega)]
theorem same_p (a : List api_Pick) (hs : a.length ≤ 100000) : weirlaw11_SamePicks.f a a = some true := by
  unfold weirlaw11_SamePicks.f
  have := same_pl a hs a.length 0 (by omega)
  rw [show (((0 : Nat)) : Int) = (0 : Int) from rfl] at this
  rw [if_neg (by simp), this]; rfl
theorem machine_s (g : weirlaw15_Graph) : ∃ t b c d, weirlaw15_Graph__Machine.f g = some (t, b, g, c, d) := by
  unfold weirlaw15_Graph__Machine.f
  cases (band .i64 g.Holes 1) == 0 <;> cases (band .i64 g.Holes 2) == 0 <;> cases (band .i64 g.Holes 4) == 0 <;> exact ⟨_, _, _, _, rfl⟩
theorem seq_self (x : ByteArray) : seq x x = true := by unfold seq; simp
theorem finish_law (g : weirlaw15_Graph) (s : ByteArray) (most : Int) (hg : ok_weirlaw15_Graph g) {h1 h2 : Prop} (_ : h1) (_ : h2) : weirlaw15_ScriptFinishes.f g s most = some true := by
  have hG : Sized g := by
    intro r hr
    have := (hg.1.2 r hr).1
    have h3 : r.length * 8 ≤ 4294967296 := this
    omega
  unfold weirlaw15_ScriptFinishes.f weirlaw15_Graph__small.f
  rw [eta_g]
  by_cases c : ¬ (g.To.length : Int) ≤ 200
  · rw [if_neg (nt (decide_eq_false c))]; rfl
  rw [Decidable.not_not] at c
  rw [if_pos (decide_eq_true c)]
  simp only [Option.bind_eq_bind, Option.bind_some, Bool.not_true, Bool.false_eq_true, if_false]
  by_cases c2 : most > 3000
  · rw [if_pos (decide_eq_true c2)]
  rw [if_neg (nt (decide_eq_false c2))]
  obtain ⟨t, b, c3, d, hm⟩ := machine_s g
  rw [hm]
  simp only [Option.bind_some]
  obtain ⟨r, f1, f2, f3⟩ := finish_l t b d c3 g hG most (by omega) (most - 0).toNat s [] (by simp) (by simp)
  unfold script_Finish.f weirref15_Finish.f
  rw [eta_g, f1, f2]
  simp only [Option.bind_eq_bind, Option.bind_some]
  rw [same_p r.2 (by omega)]
  simp only [Option.bind_some, if_true, seq_self]
end Go.Proofs.Ytpmemdhgcelkoaa.K
