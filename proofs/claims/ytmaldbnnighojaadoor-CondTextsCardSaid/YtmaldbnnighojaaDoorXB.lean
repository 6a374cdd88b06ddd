/- The text of a condition: what the program writes behind what stands there is what the document says; and the law. -/
import Derived.Test.YtmaldbnnighojaaDoorXA
set_option linter.unusedVariables false
set_option linter.unusedSimpArgs false
set_option maxRecDepth 100000
namespace Go.Proofs.YtmaldbnnighojaaDoor.K
open Go

theorem sz (s t : ByteArray) : (s ++ t).size = s.size + t.size := ByteArray.size_append
theorem wr {s t : ByteArray} (h : s.size + t.size ≤ 1000000000000) : bd_write.f s t = some ((t.size : Int), s ++ t) := by
  unfold bd_write.f; rw [strBytes_len, strBytes_len, if_pos (by omega)]
/-- A part, with brackets or without. -/
def pt (t : ByteArray) (b : Bool) : ByteArray := if b then (⟨#[40]⟩ : ByteArray) ++ t ++ (⟨#[41]⟩ : ByteArray) else t
theorem pt_size (t : ByteArray) (b : Bool) : t.size ≤ (pt t b).size ∧ (pt t b).size ≤ t.size + 2 := by
  unfold pt; cases b
  · simp
  · simp only [if_true, sz, show (⟨#[40]⟩ : ByteArray).size = 1 from rfl, show (⟨#[41]⟩ : ByteArray).size = 1 from rfl]; omega
def okT (c : List api_Node) (rd : List api_Node → Int → Option ByteArray) (rp : ByteArray → List api_Node → Int → Option ByteArray) (i k : Nat) (t : ByteArray) : Prop :=
  rd c (i : Int) = some t ∧ t.size ≤ k ∧ ∀ s : ByteArray, s.size + k ≤ 1000000000 → rp s c (i : Int) = some (s ++ t)
theorem part_d {c : List api_Node} {rd : List api_Node → Int → Option ByteArray} {i : Nat} {t : ByteArray} (op : Int) (b : Bool) (hi : i < c.length) (h : rd c (i : Int) = some t) (hs : t.size ≤ 1000000000) :
    weirref06_part_1.f rd c op (i : Int) b = some (pt t (br op (gt c (i : Int)).Op b)) := by
  unfold weirref06_part_1.f pt
  rw [h]
  simp only [Option.bind_eq_bind, Option.bind_some, if_pos (gt_in hi), br_d]
  cases br op (gt c (i : Int)).Op b
  · rfl
  · simp only [if_true, sz, show (⟨#[40]⟩ : ByteArray).size = 1 from rfl, show (⟨#[41]⟩ : ByteArray).size = 1 from rfl]
    rw [if_pos (by omega), if_pos (by omega)]
theorem part_w {c : List api_Node} {rp : ByteArray → List api_Node → Int → Option ByteArray} {i k : Nat} {t s : ByteArray} (op : Int) (b : Bool) (hi : i < c.length)
    (h : ∀ s : ByteArray, s.size + k ≤ 1000000000 → rp s c (i : Int) = some (s ++ t)) (ht : t.size ≤ k) (hs : s.size + k + 1 ≤ 1000000000) :
    cond_writer__part_1.f rp s c op (i : Int) b = some (s ++ pt t (br op (gt c (i : Int)).Op b)) := by
  unfold cond_writer__part_1.f pt
  simp only [Option.bind_eq_bind, Option.bind_some, if_pos (gt_in hi), br_p]
  cases br op (gt c (i : Int)).Op b
  · simp only [Bool.false_eq_true, if_false]
    rw [h s (by omega)]; rfl
  · simp only [if_true]
    rw [wr (by rw [show (⟨#[40]⟩ : ByteArray).size = 1 from rfl]; omega)]
    simp only [Option.bind_some]
    rw [h _ (by rw [sz, show (⟨#[40]⟩ : ByteArray).size = 1 from rfl]; omega)]
    simp only [Option.bind_some]
    rw [wr (by rw [sz, sz, show (⟨#[40]⟩ : ByteArray).size = 1 from rfl, show (⟨#[41]⟩ : ByteArray).size = 1 from rfl]; omega)]
    simp only [Option.bind_some, ByteArray.append_assoc]
theorem name_size {s : ByteArray} (h : isName s = true) : s.size ≤ 64 := by
  unfold isName at h
  simp only [Bool.and_eq_true, decide_eq_true_eq] at h
  exact h.1.1.2
theorem wf64 {v : Int} (h : (Lit.int .i64 v).wf = true) : -9223372036854775808 ≤ v ∧ v ≤ 9223372036854775807 := by
  simp only [Lit.wf, Bool.and_eq_true, decide_eq_true_eq] at h
  exact ⟨h.1, h.2⟩
theorem node_pd {c : List api_Node} {g : Nat → Nat} (hw : Wf c g c.length) (hc : c.length ≤ 1024) (hf : ∀ j, j < c.length → fd (gt c (j : Int)) = true) (hok : ∀ x ∈ c, ok_api_Node x) :
    ∀ (m i : Nat), i < m → i < c.length → ∃ t, okT c (weirref06_text.f m) (cond_writer__node.f m) i (120 * (i + 1 - g i)) t := by
  intro m
  induction m with
  | zero => intro i hi; omega
  | succ m ih =>
    intro i hi hl
    obtain ⟨w1, w2, w3⟩ := hw i hl
    have hfd := hf i hl
    have hin : (gt c (i : Int)) ∈ c := by rw [gt_nat hl]; exact List.getElem_mem hl
    have hokn := hok _ hin
    unfold okT weirref06_text.f cond_writer__node.f weirref06_text.body cond_writer__node.body
    simp only [if_pos (gt_in hl)]
    generalize hn : gt c (i : Int) = n at *
    clear hin
    by_cases h1 : n.Op = 1
    · refine ⟨⟨#[116, 114, 117, 101]⟩, by simp only [h1]; rfl, by rw [show (⟨#[116, 114, 117, 101]⟩ : ByteArray).size = 4 from rfl]; omega, fun s hs => ?_⟩
      simp only [h1, beq_self_eq_true, if_true]
      rw [wr (by rw [show (⟨#[116, 114, 117, 101]⟩ : ByteArray).size = 4 from rfl]; omega)]; rfl
    have f1 : (n.Op == 1) = false := by simpa using h1
    by_cases h2 : n.Op = 2
    · have f2 : (n.Op == 2) = true := by rw [h2]; rfl
      unfold fd at hfd
      rw [if_pos h2] at hfd
      simp only [Bool.and_eq_true, decide_eq_true_eq] at hfd
      obtain ⟨⟨-, -, k1, k2⟩, k3⟩ := hfd
      have kz := name_size k3
      have kv := wf64 hokn.2.2.2.2
      have kt := itoa_size kv
      have ku := itoa_size (v := n.Ref.Thread) (by omega)
      have e1 : (⟨#[61]⟩ : ByteArray).size = 1 := rfl
      have e2 : (⟨#[58]⟩ : ByteArray).size = 1 := rfl
      simp only [f1, f2, Bool.false_eq_true, if_false, if_true, text_d kv, text_d (v := n.Ref.Thread) (by omega), Option.bind_eq_bind, Option.bind_some, word_Text.f, format_p kv, cond_refText.f, itoa_p (v := n.Ref.Thread) (by omega), sz, e1, e2]
      by_cases ht : n.Ref.Thread < 0
      · have d1 : decide (n.Ref.Thread ≥ 0) = false := decide_eq_false (by omega)
        have d2 : decide (n.Ref.Thread < 0) = true := decide_eq_true (by omega)
        simp only [d1, d2, Bool.false_eq_true, if_false, if_true, Option.bind_some]
        refine ⟨n.Ref.Name ++ ⟨#[61]⟩ ++ itoaB n.Value, ?_, ?_, fun s hs => ?_⟩
        · rw [if_pos (by omega), if_pos (by omega)]
        · rw [sz, sz, e1]; omega
        · rw [if_pos (by omega), if_pos (by omega), wr (by rw [sz, sz, e1]; omega)]; rfl
      · have d1 : decide (n.Ref.Thread ≥ 0) = true := decide_eq_true (by omega)
        have d2 : decide (n.Ref.Thread < 0) = false := decide_eq_false (by omega)
        simp only [d1, d2, Bool.false_eq_true, if_false, if_true, Option.bind_some]
        refine ⟨itoaB n.Ref.Thread ++ ⟨#[58]⟩ ++ (n.Ref.Name ++ ⟨#[61]⟩ ++ itoaB n.Value), ?_, ?_, fun s hs => ?_⟩
        · rw [if_pos (by omega), if_pos (by omega), if_pos (by omega), if_pos (by omega)]
        · rw [sz, sz, sz, sz, e1, e2]; omega
        · rw [if_pos (by omega), if_pos (by omega)]
          simp only [Option.bind_some, sz, e2]
          rw [if_pos (by omega), if_pos (by omega), wr (by rw [sz, sz, sz, sz, e1, e2]; omega)]
          simp only [Option.bind_some, ByteArray.append_assoc]
    have f2 : (n.Op == 2) = false := by simpa using h2
    by_cases h3 : n.Op = 3
    · have f3 : (n.Op == 3) = true := by rw [h3]; rfl
      obtain ⟨p1, p2, p3⟩ := w2 h3
      obtain ⟨t, t1, t2, t3⟩ := ih (i - 1) (by omega) (by omega)
      have hz := pt_size t (br n.Op (gt c ((i - 1 : Nat) : Int)).Op false)
      have hg1 := (hw (i - 1) (by omega)).1
      have e1 : (⟨#[126]⟩ : ByteArray).size = 1 := rfl
      refine ⟨(⟨#[126]⟩ : ByteArray) ++ pt t (br n.Op (gt c ((i - 1 : Nat) : Int)).Op false), ?_, ?_, fun s hs => ?_⟩
      · simp only [f1, f2, f3, Bool.false_eq_true, if_false, if_true, p2]
        rw [part_d n.Op false (by omega) t1 (by omega)]
        simp only [Option.bind_eq_bind, Option.bind_some]
        rw [if_pos (by rw [e1]; omega)]
      · rw [sz, e1]; omega
      · simp only [f1, f2, f3, Bool.false_eq_true, if_false, if_true, p2]
        rw [wr (by rw [e1]; omega)]
        simp only [Option.bind_eq_bind, Option.bind_some]
        rw [part_w n.Op false (by omega) t3 t2 (by rw [sz, e1]; omega)]
        simp only [Option.bind_some, ByteArray.append_assoc]
    have f3 : (n.Op == 3) = false := by simpa using h3
    by_cases h45 : n.Op = 4 ∨ n.Op = 5
    · obtain ⟨p1, p2, p3, p4, p5⟩ := w3 h45
      have hg1 := (hw (i - 1) (by omega)).1
      have hg2 := (hw (g (i - 1) - 1) (by omega)).1
      obtain ⟨a, a1, a2, a3⟩ := ih (g (i - 1) - 1) (by omega) (by omega)
      obtain ⟨b, b1, b2, b3⟩ := ih (i - 1) (by omega) (by omega)
      have za := pt_size a (br n.Op (gt c ((g (i - 1) - 1 : Nat) : Int)).Op false)
      have zb := pt_size b (br n.Op (gt c ((i - 1 : Nat) : Int)).Op true)
      have pa := part_d n.Op false (by omega) a1 (by omega)
      have pb := part_d n.Op true (by omega) b1 (by omega)
      generalize hA : pt a (br n.Op (gt c ((g (i - 1) - 1 : Nat) : Int)).Op false) = A at *
      generalize hB : pt b (br n.Op (gt c ((i - 1 : Nat) : Int)).Op true) = B at *
      have both : ∀ o : ByteArray, o.size = 4 → ∀ s : ByteArray, s.size + 120 * (i + 1 - g i) ≤ 1000000000 →
          cond_writer__part_1.f (cond_writer__node.f m) s c n.Op ((g (i - 1) - 1 : Nat) : Int) false = some (s ++ A) ∧ bd_write.f (s ++ A) o = some ((o.size : Int), s ++ A ++ o) ∧
          cond_writer__part_1.f (cond_writer__node.f m) (s ++ A ++ o) c n.Op ((i - 1 : Nat) : Int) true = some (s ++ A ++ o ++ B) := by
        intro o ho s hs
        refine ⟨by rw [part_w n.Op false (by omega) a3 a2 (by omega), hA], wr (by rw [sz]; omega), ?_⟩
        rw [part_w n.Op true (by omega) b3 b2 (by rw [sz, sz]; omega), hB]
      rcases h45 with h4 | h5
      · have f4 : (n.Op == 4) = true := by rw [h4]; rfl
        have e1 : (⟨#[32, 47, 92, 32]⟩ : ByteArray).size = 4 := rfl
        refine ⟨A ++ (⟨#[32, 47, 92, 32]⟩ : ByteArray) ++ B, ?_, ?_, fun s hs => ?_⟩
        · simp only [f1, f2, f3, f4, Bool.false_eq_true, if_false, if_true, p2, p4, pa, pb, Option.bind_eq_bind, Option.bind_some, sz, e1]
          rw [if_pos (by omega), if_pos (by omega)]
        · rw [sz, sz, e1]; omega
        · obtain ⟨q1, q2, q3⟩ := both _ e1 s hs
          simp only [f1, f2, f3, f4, Bool.false_eq_true, if_false, if_true, p2, p4, q1, q2, q3, Option.bind_eq_bind, Option.bind_some]
          rw [ByteArray.append_assoc, ByteArray.append_assoc, ByteArray.append_assoc]
      · have f4 : (n.Op == 4) = false := by rw [h5]; rfl
        have e1 : (⟨#[32, 92, 47, 32]⟩ : ByteArray).size = 4 := rfl
        refine ⟨A ++ (⟨#[32, 92, 47, 32]⟩ : ByteArray) ++ B, ?_, ?_, fun s hs => ?_⟩
        · simp only [f1, f2, f3, f4, Bool.false_eq_true, if_false, if_true, p2, p4, pa, pb, Option.bind_eq_bind, Option.bind_some, sz, e1]
          rw [if_pos (by omega), if_pos (by omega)]
        · rw [sz, sz, e1]; omega
        · obtain ⟨q1, q2, q3⟩ := both _ e1 s hs
          simp only [f1, f2, f3, f4, Bool.false_eq_true, if_false, if_true, p2, p4, q1, q2, q3, Option.bind_eq_bind, Option.bind_some]
          rw [ByteArray.append_assoc, ByteArray.append_assoc, ByteArray.append_assoc]
    · exfalso
      have h4 : ¬ n.Op = 4 := fun h => h45 (.inl h)
      have h5 : ¬ n.Op = 5 := fun h => h45 (.inr h)
      unfold fd at hfd
      rw [if_neg h2, if_neg h1, if_neg h3, if_neg h45] at hfd
      cases hfd
theorem texts_law (c : List api_Node) (hl : c.length * 56 ≤ bnd ∧ ∀ x ∈ c, ok_api_Node x) : weirlaw06_CondTexts.f c = some true := by
  have hb : c.length * 56 ≤ 0x7ffffffff000 := by have := hl.1; have : bnd = 0x7ffffffff000 := rfl; omega
  obtain ⟨e, e1, e2, e3⟩ := check_pd c
  have hm : ∃ t, cond_Text.f c = some (t, e) ∧ weirref06_Text.f c = some (t, e) := by
    unfold cond_Text.f weirref06_Text.f
    rw [e1, e2]
    simp only [Option.bind_eq_bind, Option.bind_some]
    by_cases he : e = 0
    · obtain ⟨k1, k2, g, k3, k4, k5⟩ := e3 he
      have hf := fuelN_ge
      obtain ⟨t, t1, t2, t3⟩ := node_pd k3 k2 k5 hl.2 fuelN (c.length - 1) (by omega) (by omega)
      have hs : (⟨#[]⟩ : ByteArray).size = 0 := rfl
      have h0 := t3 ⟨#[]⟩ (by rw [hs]; omega)
      rw [show (⟨#[]⟩ : ByteArray) = ByteArray.empty from rfl, ByteArray.empty_append] at h0
      rw [if_neg (by rw [he]; decide), if_neg (by rw [he]; decide), wsub1 (by omega) (by omega), t1, show (⟨#[]⟩ : ByteArray) = ByteArray.empty from rfl, h0]
      exact ⟨t, by rw [he]; rfl, by rw [he]; rfl⟩
    · exact ⟨⟨#[]⟩, by rw [if_pos (by simpa using he)], by rw [if_pos (by simpa using he)]⟩
  obtain ⟨t, m1, m2⟩ := hm
  have hlen : c.length ≤ (c ++ [spN]).length := by simp
  unfold weirlaw06_CondTexts.f
  rw [lent c hb]
  simp only [Option.bind_eq_bind, Option.bind_some]
  rw [if_pos hlen, List.take_left' rfl, m1, m2]
  simp only [Option.bind_some]
  rw [if_pos hlen, e1, e2, back c (by omega)]
  simp only [Option.bind_some, weirlaw06_num.f, beq_self_eq_true, if_true, seq_p, decide_true]
end Go.Proofs.YtmaldbnnighojaaDoor.K
