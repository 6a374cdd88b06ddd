/- Brackets, depth and text of a tree: what the program reckons of its nodes. -/
import Derived.Test.YtboejepakdnbgaaGreatDoorTA
set_option linter.unusedVariables false
set_option linter.unusedSectionVars false
set_option linter.unusedSimpArgs false
set_option maxRecDepth 100000
namespace Go.Proofs.YtboejepakdnbgaaGreatDoor.K.C
open Go

def br (a b : Int) (s : Bool) : Bool := (cond_bracketed.f a b s).getD false
theorem br_p (a b : Int) (s : Bool) : cond_bracketed.f a b s = some (br a b s) := by
  unfold br cond_bracketed.f
  cases a == 3 <;> cases b == 4 <;> cases b == 5 <;> cases a == 4 <;> rfl
namespace Cd
def op : Cd → Int
  | .tru => 1
  | .eq _ _ => 2
  | .not _ => 3
  | .and _ _ => 4
  | .or _ _ => 5
theorem top_op (t : Cd) (k : Nat) : (t.top k).Op = t.op := by cases t <;> rfl
def bk (o : Int) (t : Cd) (s : Bool) : Bool := br o t.op s
def dep : Cd → Nat
  | .tru => 0
  | .eq _ _ => 0
  | .not a => a.dep + (if bk 3 a false then 1 else 0) + 1
  | .and a b => max (a.dep + (if bk 4 a false then 1 else 0)) (b.dep + (if bk 4 b true then 1 else 0))
  | .or a b => max (a.dep + (if bk 5 a false then 1 else 0)) (b.dep + (if bk 5 b true then 1 else 0))
theorem dep_le : ∀ t : Cd, t.dep ≤ 2 * t.n
  | .tru => by simp [dep]
  | .eq _ _ => by simp [dep]
  | .not a => by have := dep_le a; simp only [dep, n]; split <;> omega
  | .and a b => by have := dep_le a; have := dep_le b; simp only [dep, n]; split <;> split <;> omega
  | .or a b => by have := dep_le a; have := dep_le b; simp only [dep, n]; split <;> split <;> omega
end Cd
theorem At.last {c : List api_Node} {t : Cd} {k : Nat} (h : At c k (t.nodes k)) : k + t.n - 1 < c.length ∧ gt c ((k + t.n - 1 : Nat) : Int) = t.top k := by
  have h2 : At c (k + t.n - 1) [t.top k] := by
    cases t with
    | tru => exact h
    | eq r v => exact h
    | not a =>
      have := h.right
      rw [a.len] at this
      exact this
    | and a b =>
      have := h.right.right
      rw [a.len, b.len] at this
      rw [show k + (Cd.and a b).n - 1 = k + a.n + b.n by simp only [Cd.n]; omega]
      exact this
    | or a b =>
      have := h.right.right
      rw [a.len, b.len] at this
      rw [show k + (Cd.or a b).n - 1 = k + a.n + b.n by simp only [Cd.n]; omega]
      exact this
  exact h2.get
theorem gt_in {c : List api_Node} {i : Nat} (h : i < c.length) : (0 : Int) ≤ (i : Int) ∧ (i : Int) < (c.length : Int) := by omega
theorem deep_part {rec : List api_Node → Int → Option Int} {c : List api_Node} {t : Cd} {k : Nat} (h : At c k (t.nodes k)) (x : api_Node) (s : Bool) (hc : t.n ≤ 1024) (hr : rec c ((k + t.n - 1 : Nat) : Int) = some (t.dep : Int)) :
    cond_deep_1_1.f rec ((k + t.n - 1 : Nat) : Int) s c x = some ((t.dep + (if Cd.bk x.Op t s then 1 else 0) : Nat) : Int) := by
  obtain ⟨h1, h2⟩ := h.last
  have hd := t.dep_le
  unfold cond_deep_1_1.f
  rw [hr]
  simp only [Option.bind_eq_bind, Option.bind_some, if_pos (gt_in h1), h2, Cd.top_op, br_p]
  unfold Cd.bk
  cases br x.Op t.op s
  · simp
  · simp only [if_true]
    rw [w1 (by omega)]
theorem deep_run {c : List api_Node} (hc : c.length ≤ 1024) : ∀ (t : Cd) (k m : Nat), At c k (t.nodes k) → t.n ≤ m → cond_deep.f m c ((k + t.n - 1 : Nat) : Int) = some (t.dep : Int) := by
  intro t
  induction t with
  | tru =>
    intro k m h hm
    obtain ⟨n, rfl⟩ : ∃ n, m = n + 1 := ⟨m - 1, by simp only [Cd.n] at hm; omega⟩
    obtain ⟨h1, h2⟩ := h.last
    show cond_deep.body (cond_deep.f n) c _ = _
    unfold cond_deep.body
    rw [if_pos (gt_in h1), h2]; rfl
  | eq r v =>
    intro k m h hm
    obtain ⟨n, rfl⟩ : ∃ n, m = n + 1 := ⟨m - 1, by simp only [Cd.n] at hm; omega⟩
    obtain ⟨h1, h2⟩ := h.last
    show cond_deep.body (cond_deep.f n) c _ = _
    unfold cond_deep.body
    rw [if_pos (gt_in h1), h2]; rfl
  | not a iha =>
    intro k m h hm
    simp only [Cd.n] at hm
    obtain ⟨n, rfl⟩ : ∃ n, m = n + 1 := ⟨m - 1, by omega⟩
    obtain ⟨h1, h2⟩ := h.last
    have ha : At c k (a.nodes k) := At.left h
    have hl := ha.len
    rw [a.len] at hl
    have hd := a.dep_le
    show cond_deep.body (cond_deep.f n) c _ = _
    unfold cond_deep.body
    rw [if_pos (gt_in h1), h2]
    have e : (((Cd.not a).top k).Op == 3) = true := rfl
    rw [if_pos e]
    have hp := deep_part ha ((Cd.not a).top k) false (by omega) (iha k n ha (by omega))
    have hA : ((Cd.not a).top k).A = ((k + a.n - 1 : Nat) : Int) := rfl
    rw [hA, hp]
    simp only [Option.bind_eq_bind, Option.bind_some]
    rw [show (((Cd.not a).top k).Op) = 3 from rfl, wi64_id (by split <;> omega) (by split <;> omega)]
    simp only [Cd.dep]
    congr 1
    split <;> omega
  | and a b iha ihb =>
    intro k m h hm
    simp only [Cd.n] at hm
    obtain ⟨n, rfl⟩ : ∃ n, m = n + 1 := ⟨m - 1, by omega⟩
    obtain ⟨h1, h2⟩ := h.last
    have ha : At c k (a.nodes k) := At.left h
    have hb : At c (k + a.n) (b.nodes (k + a.n)) := by have := (At.right h).left; rw [a.len] at this; exact this
    have hl := ha.len
    have hl2 := hb.len
    rw [a.len] at hl
    rw [b.len] at hl2
    have hd := a.dep_le
    have hd2 := b.dep_le
    show cond_deep.body (cond_deep.f n) c _ = _
    unfold cond_deep.body
    rw [if_pos (gt_in h1), h2]
    have e : (((Cd.and a b).top k).Op == 3) = false := rfl
    have e4 : (((Cd.and a b).top k).Op == 4) = true := rfl
    simp only [e, e4, Bool.false_eq_true, if_false, if_true, Option.bind_eq_bind, Option.bind_some]
    have hp := deep_part ha ((Cd.and a b).top k) false (by omega) (iha k n ha (by omega))
    have hp2 := deep_part hb ((Cd.and a b).top k) true (by omega) (ihb (k + a.n) n hb (by omega))
    have hA : ((Cd.and a b).top k).A = ((k + a.n - 1 : Nat) : Int) := rfl
    have hB : ((Cd.and a b).top k).B = ((k + a.n + b.n - 1 : Nat) : Int) := rfl
    rw [hA, hB, hp]
    simp only [Option.bind_some]
    rw [hp2]
    simp only [Option.bind_some, Cd.dep]
    rw [show (((Cd.and a b).top k).Op) = 4 from rfl]
    unfold bmax
    congr 1
    split <;> omega
  | or a b iha ihb =>
    intro k m h hm
    simp only [Cd.n] at hm
    obtain ⟨n, rfl⟩ : ∃ n, m = n + 1 := ⟨m - 1, by omega⟩
    obtain ⟨h1, h2⟩ := h.last
    have ha : At c k (a.nodes k) := At.left h
    have hb : At c (k + a.n) (b.nodes (k + a.n)) := by have := (At.right h).left; rw [a.len] at this; exact this
    have hl := ha.len
    have hl2 := hb.len
    rw [a.len] at hl
    rw [b.len] at hl2
    have hd := a.dep_le
    have hd2 := b.dep_le
    show cond_deep.body (cond_deep.f n) c _ = _
    unfold cond_deep.body
    rw [if_pos (gt_in h1), h2]
    have e : (((Cd.or a b).top k).Op == 3) = false := rfl
    have e4 : (((Cd.or a b).top k).Op == 4) = false := rfl
    have e5 : (((Cd.or a b).top k).Op == 5) = true := rfl
    simp only [e, e4, e5, Bool.false_eq_true, if_false, if_true, Option.bind_eq_bind, Option.bind_some]
    have hp := deep_part ha ((Cd.or a b).top k) false (by omega) (iha k n ha (by omega))
    have hp2 := deep_part hb ((Cd.or a b).top k) true (by omega) (ihb (k + a.n) n hb (by omega))
    have hA : ((Cd.or a b).top k).A = ((k + a.n - 1 : Nat) : Int) := rfl
    have hB : ((Cd.or a b).top k).B = ((k + a.n + b.n - 1 : Nat) : Int) := rfl
    rw [hA, hB, hp]
    simp only [Option.bind_some]
    rw [hp2]
    simp only [Option.bind_some, Cd.dep]
    rw [show (((Cd.or a b).top k).Op) = 5 from rfl]
    unfold bmax
    congr 1
    split <;> omega
theorem at_self (t : Cd) : At (t.nodes 0) 0 (t.nodes 0) := ⟨[], [], by simp, rfl⟩
theorem last_i {c : List api_Node} (h : 1 ≤ c.length) (h2 : c.length ≤ 1024) : IntKind.i64.wrap ((c.length : Int) - 1) = ((c.length - 1 : Nat) : Int) := by rw [wi64_id (by omega) (by omega)]; omega
theorem check_iff (c : List api_Node) : (∃ t : Cd, t.wf = true ∧ c = t.nodes 0 ∧ t.n ≤ 1024 ∧ t.dep ≤ 64 ∧ cond_Check.f c = some 0) ∨ (∃ e, e ≠ 0 ∧ cond_Check.f c = some e) := by
  unfold cond_Check.f
  rcases makes_iff c with ⟨t, h1, h2, h3, h4⟩ | ⟨h1, h2⟩
  · rw [h4]
    simp only [Option.bind_eq_bind, Option.bind_some, Bool.not_true, Bool.false_eq_true, if_false]
    have hl : c.length = t.n := by rw [h2, t.len]
    have hp := t.n_pos
    have hd := t.dep_le
    have hr := deep_run (c := c) (by omega) t 0 fuelN (by rw [h2]; exact at_self t) (by have := fuelN_ge; omega)
    rw [last_i (by omega) (by omega), hl]
    rw [Nat.zero_add] at hr
    rw [hr]
    simp only [Option.bind_some]
    by_cases hd2 : t.dep ≤ 64
    · left
      rw [if_neg (nt (decide_eq_false (by omega)))]
      exact ⟨t, h1, h2, h3, hd2, rfl⟩
    · right
      rw [if_pos (decide_eq_true (by omega))]
      exact ⟨2, by decide, rfl⟩
  · right
    rw [h2]
    exact ⟨60, by decide, rfl⟩
theorem check_T {t : Cd} (h : t.wf = true) (hn : t.n ≤ 1024) (hd : t.dep ≤ 64) : cond_Check.f (t.nodes 0) = some 0 := by
  unfold cond_Check.f
  have hl : (t.nodes 0).length = t.n := t.len 0
  have hp := t.n_pos
  rcases makes_iff (t.nodes 0) with ⟨t', h1, h2, h3, h4⟩ | ⟨h1, h2⟩
  · rw [h4]
    simp only [Option.bind_eq_bind, Option.bind_some, Bool.not_true, Bool.false_eq_true, if_false]
    have hr := deep_run (c := t.nodes 0) (by omega) t 0 fuelN (at_self t) (by have := fuelN_ge; omega)
    rw [last_i (by omega) (by omega), hl]
    rw [Nat.zero_add] at hr
    rw [hr]
    simp only [Option.bind_some]
    rw [if_neg (nt (decide_eq_false (by omega)))]
  · exact absurd (h1 t h rfl) (by omega)
/-! ### The text -/
theorem sz (s t : ByteArray) : (s ++ t).size = s.size + t.size := ByteArray.size_append
theorem wr {s t : ByteArray} (h : s.size + t.size ≤ 1000000000000) : bd_write.f s t = some ((t.size : Int), s ++ t) := by
  unfold bd_write.f; rw [strBytes_len, strBytes_len, if_pos (by omega)]
def pt (t : ByteArray) (b : Bool) : ByteArray := if b then (⟨#[40]⟩ : ByteArray) ++ t ++ (⟨#[41]⟩ : ByteArray) else t
theorem pt_size (t : ByteArray) (b : Bool) : t.size ≤ (pt t b).size ∧ (pt t b).size ≤ t.size + 2 := by
  unfold pt; cases b
  · simp
  · simp only [if_true, sz, show (⟨#[40]⟩ : ByteArray).size = 1 from rfl, show (⟨#[41]⟩ : ByteArray).size = 1 from rfl]; omega
def refB (r : api_Ref) : ByteArray := if r.Thread < 0 then r.Name else itoaB r.Thread ++ (⟨#[58]⟩ : ByteArray) ++ r.Name
namespace Cd
def text : Cd → ByteArray
  | .tru => (⟨#[116, 114, 117, 101]⟩ : ByteArray)
  | .eq r v => refB r ++ (⟨#[61]⟩ : ByteArray) ++ itoaB v
  | .not a => (⟨#[126]⟩ : ByteArray) ++ pt a.text (bk 3 a false)
  | .and a b => pt a.text (bk 4 a false) ++ (⟨#[32, 47, 92, 32]⟩ : ByteArray) ++ pt b.text (bk 4 b true)
  | .or a b => pt a.text (bk 5 a false) ++ (⟨#[32, 92, 47, 32]⟩ : ByteArray) ++ pt b.text (bk 5 b true)
def vals : Cd → Prop
  | .tru => True
  | .eq _ v => -9223372036854775808 ≤ v ∧ v ≤ 9223372036854775807
  | .not a => a.vals
  | .and a b => a.vals ∧ b.vals
  | .or a b => a.vals ∧ b.vals
end Cd
theorem dec_len : ∀ (k u : Nat), u < 10 ^ (k + 1) → (Lib.decDigits u).length ≤ k + 1
  | 0, u, h => by rw [Lib.decDigits, dif_pos (by simpa using h)]; simp
  | k + 1, u, h => by
    rw [Lib.decDigits]
    by_cases h1 : u < 10
    · rw [dif_pos h1]; simp
    · rw [dif_neg h1]
      have := dec_len k (u / 10) (by rw [Nat.pow_succ] at h; omega)
      simp; omega
theorem mk_size (a : List UInt8) : (⟨a.toArray⟩ : ByteArray).size = a.length := by simp [ByteArray.size]
theorem itoa_size {v : Int} (h : -9223372036854775808 ≤ v ∧ v ≤ 9223372036854775807) : (itoaB v).size ≤ 20 := by
  unfold itoaB
  rw [mk_size]
  unfold Lib.itoa
  split
  · have := dec_len 18 v.natAbs (by omega)
    simp only [List.length_cons]; omega
  · have := dec_len 18 v.toNat (by omega)
    omega
theorem itoa_p {v : Int} (h : -9223372036854775808 ≤ v ∧ v ≤ 9223372036854775807) : strconv_Itoa.f v = some (itoaB v) := if_pos h
theorem format_p {v : Int} (h : -9223372036854775808 ≤ v ∧ v ≤ 9223372036854775807) : strconv_FormatInt.f v 10 = some (itoaB v) := if_pos ⟨rfl, h⟩
theorem name_size {s : ByteArray} (h : isName s = true) : s.size ≤ 64 := by
  unfold isName at h
  simp only [Bool.and_eq_true, decide_eq_true_eq] at h
  exact h.1.1.2
theorem ref_size {r : api_Ref} (h : -1 ≤ r.Thread ∧ r.Thread ≤ 9999) (hn : isName r.Name = true) : (refB r).size ≤ 85 := by
  have := name_size hn
  unfold refB
  split
  · omega
  · have := itoa_size (v := r.Thread) (by omega)
    simp only [sz, show (⟨#[58]⟩ : ByteArray).size = 1 from rfl]; omega
theorem refText_p {r : api_Ref} (h : -1 ≤ r.Thread ∧ r.Thread ≤ 9999) (hn : isName r.Name = true) : cond_refText.f r = some (refB r) := by
  have hs := name_size hn
  unfold cond_refText.f refB
  by_cases ht : r.Thread < 0
  · rw [if_pos (decide_eq_true ht), if_pos ht]
  · have hi := itoa_size (v := r.Thread) (by omega)
    rw [if_neg (nt (decide_eq_false ht)), if_neg ht, itoa_p (by omega)]
    simp only [Option.bind_eq_bind, Option.bind_some]
    rw [if_pos (by rw [show (⟨#[58]⟩ : ByteArray).size = 1 from rfl]; omega), if_pos (by rw [sz, show (⟨#[58]⟩ : ByteArray).size = 1 from rfl]; omega)]
theorem text_size : ∀ t : Cd, t.wf = true → t.vals → t.text.size ≤ 200 * t.n := by
  intro t
  induction t with
  | tru => intro _ _; decide
  | eq r v =>
    intro h hv
    simp only [Cd.wf, Bool.and_eq_true, decide_eq_true_eq] at h
    have := ref_size h.1 h.2
    have := itoa_size hv
    simp only [Cd.text, Cd.n, sz, show (⟨#[61]⟩ : ByteArray).size = 1 from rfl]; omega
  | not a ih =>
    intro h hv
    have := ih h hv
    have := pt_size a.text (Cd.bk 3 a false)
    simp only [Cd.text, Cd.n, sz, show (⟨#[126]⟩ : ByteArray).size = 1 from rfl]; omega
  | and a b iha ihb =>
    intro h hv
    simp only [Cd.wf, Bool.and_eq_true] at h
    have := iha h.1 hv.1
    have := ihb h.2 hv.2
    have := pt_size a.text (Cd.bk 4 a false)
    have := pt_size b.text (Cd.bk 4 b true)
    simp only [Cd.text, Cd.n, sz, show (⟨#[32, 47, 92, 32]⟩ : ByteArray).size = 4 from rfl]; omega
  | or a b iha ihb =>
    intro h hv
    simp only [Cd.wf, Bool.and_eq_true] at h
    have := iha h.1 hv.1
    have := ihb h.2 hv.2
    have := pt_size a.text (Cd.bk 5 a false)
    have := pt_size b.text (Cd.bk 5 b true)
    simp only [Cd.text, Cd.n, sz, show (⟨#[32, 92, 47, 32]⟩ : ByteArray).size = 4 from rfl]; omega
theorem part_w {c : List api_Node} {rp : ByteArray → List api_Node → Int → Option ByteArray} {t : Cd} {k : Nat} {s : ByteArray} (o : Int) (b : Bool) (hat : At c k (t.nodes k))
    (h : ∀ s : ByteArray, s.size + t.text.size ≤ 1000000000 → rp s c ((k + t.n - 1 : Nat) : Int) = some (s ++ t.text)) (hs : s.size + (pt t.text (Cd.bk o t b)).size ≤ 1000000000) :
    cond_writer__part_1.f rp s c o ((k + t.n - 1 : Nat) : Int) b = some (s ++ pt t.text (Cd.bk o t b)) := by
  obtain ⟨h1, h2⟩ := hat.last
  revert hs
  unfold cond_writer__part_1.f pt Cd.bk
  simp only [Option.bind_eq_bind, Option.bind_some, if_pos (gt_in h1), h2, Cd.top_op, br_p]
  cases br o t.op b
  · simp only [Bool.false_eq_true, if_false]
    intro hs
    rw [h s (by omega)]; rfl
  · simp only [if_true, sz, show (⟨#[40]⟩ : ByteArray).size = 1 from rfl, show (⟨#[41]⟩ : ByteArray).size = 1 from rfl]
    intro hs
    rw [wr (by rw [show (⟨#[40]⟩ : ByteArray).size = 1 from rfl]; omega)]
    simp only [Option.bind_some]
    rw [h _ (by rw [sz, show (⟨#[40]⟩ : ByteArray).size = 1 from rfl]; omega)]
    simp only [Option.bind_some]
    rw [wr (by rw [sz, sz, show (⟨#[40]⟩ : ByteArray).size = 1 from rfl, show (⟨#[41]⟩ : ByteArray).size = 1 from rfl]; omega)]
    simp only [Option.bind_some, ByteArray.append_assoc]
theorem node_w {c : List api_Node} (hc : c.length ≤ 1024) : ∀ (t : Cd) (k m : Nat) (s : ByteArray), t.wf = true → t.vals → At c k (t.nodes k) → t.n ≤ m → s.size + t.text.size ≤ 1000000000 →
    cond_writer__node.f m s c ((k + t.n - 1 : Nat) : Int) = some (s ++ t.text) := by
  intro t
  induction t with
  | tru =>
    intro k m s hw hv h hm hs
    obtain ⟨n, rfl⟩ : ∃ n, m = n + 1 := ⟨m - 1, by simp only [Cd.n] at hm; omega⟩
    obtain ⟨h1, h2⟩ := h.last
    show cond_writer__node.body (cond_writer__node.f n) s c _ = _
    unfold cond_writer__node.body
    rw [if_pos (gt_in h1), h2]
    have e : ((Cd.tru.top k).Op == 1) = true := rfl
    rw [if_pos e, wr (by simp only [Cd.text] at hs; omega)]
    rfl
  | eq r v =>
    intro k m s hw hv h hm hs
    obtain ⟨n, rfl⟩ : ∃ n, m = n + 1 := ⟨m - 1, by simp only [Cd.n] at hm; omega⟩
    obtain ⟨h1, h2⟩ := h.last
    show cond_writer__node.body (cond_writer__node.f n) s c _ = _
    unfold cond_writer__node.body
    rw [if_pos (gt_in h1), h2]
    have e1 : (((Cd.eq r v).top k).Op == 1) = false := rfl
    have e2 : (((Cd.eq r v).top k).Op == 2) = true := rfl
    simp only [e1, e2, Bool.false_eq_true, if_false, if_true]
    simp only [Cd.wf, Bool.and_eq_true, decide_eq_true_eq] at hw
    have hr : ((Cd.eq r v).top k).Ref = r := rfl
    have hvv : ((Cd.eq r v).top k).Value = v := rfl
    have z1 := ref_size hw.1 hw.2
    have z2 := itoa_size hv
    rw [hr, hvv, refText_p hw.1 hw.2]
    unfold word_Text.f
    simp only [Option.bind_eq_bind, Option.bind_some]
    rw [if_pos (by rw [show (⟨#[61]⟩ : ByteArray).size = 1 from rfl]; omega), format_p hv]
    simp only [Option.bind_some]
    rw [if_pos (by rw [sz, show (⟨#[61]⟩ : ByteArray).size = 1 from rfl]; omega), wr (by simp only [Cd.text] at hs; omega)]
    rfl
  | not a iha =>
    intro k m s hw hv h hm hs
    simp only [Cd.n] at hm
    obtain ⟨n, rfl⟩ : ∃ n, m = n + 1 := ⟨m - 1, by omega⟩
    obtain ⟨h1, h2⟩ := h.last
    have ha : At c k (a.nodes k) := At.left h
    simp only [Cd.text, sz, show (⟨#[126]⟩ : ByteArray).size = 1 from rfl] at hs
    show cond_writer__node.body (cond_writer__node.f n) s c _ = _
    unfold cond_writer__node.body
    rw [if_pos (gt_in h1), h2]
    have e1 : (((Cd.not a).top k).Op == 1) = false := rfl
    have e2 : (((Cd.not a).top k).Op == 2) = false := rfl
    have e3 : (((Cd.not a).top k).Op == 3) = true := rfl
    simp only [e1, e2, e3, Bool.false_eq_true, if_false, if_true]
    rw [wr (by rw [show (⟨#[126]⟩ : ByteArray).size = 1 from rfl]; omega)]
    simp only [Option.bind_eq_bind, Option.bind_some]
    have hA : ((Cd.not a).top k).A = ((k + a.n - 1 : Nat) : Int) := rfl
    have hO : ((Cd.not a).top k).Op = 3 := rfl
    rw [hA, hO, part_w 3 false ha (fun s' hs' => iha k n s' hw hv ha (by omega) hs') (by rw [sz, show (⟨#[126]⟩ : ByteArray).size = 1 from rfl]; omega)]
    simp only [Option.bind_some, Cd.text, ByteArray.append_assoc]
  | and a b iha ihb =>
    intro k m s hw hv h hm hs
    simp only [Cd.n] at hm
    obtain ⟨n, rfl⟩ : ∃ n, m = n + 1 := ⟨m - 1, by omega⟩
    obtain ⟨h1, h2⟩ := h.last
    have ha : At c k (a.nodes k) := At.left h
    have hb : At c (k + a.n) (b.nodes (k + a.n)) := by have := (At.right h).left; rw [a.len] at this; exact this
    simp only [Cd.wf, Bool.and_eq_true] at hw
    have z4 : (⟨#[32, 47, 92, 32]⟩ : ByteArray).size = 4 := rfl
    simp only [Cd.text, sz, z4] at hs
    show cond_writer__node.body (cond_writer__node.f n) s c _ = _
    unfold cond_writer__node.body
    rw [if_pos (gt_in h1), h2]
    have e1 : (((Cd.and a b).top k).Op == 1) = false := rfl
    have e2 : (((Cd.and a b).top k).Op == 2) = false := rfl
    have e3 : (((Cd.and a b).top k).Op == 3) = false := rfl
    have e4 : (((Cd.and a b).top k).Op == 4) = true := rfl
    simp only [e1, e2, e3, e4, Bool.false_eq_true, if_false, if_true]
    have hA : ((Cd.and a b).top k).A = ((k + a.n - 1 : Nat) : Int) := rfl
    have hB : ((Cd.and a b).top k).B = ((k + a.n + b.n - 1 : Nat) : Int) := rfl
    have hO : ((Cd.and a b).top k).Op = 4 := rfl
    rw [hA, hB, hO, part_w 4 false ha (fun s' hs' => iha k n s' hw.1 hv.1 ha (by omega) hs') (by omega)]
    simp only [Option.bind_eq_bind, Option.bind_some]
    rw [wr (by rw [sz, z4]; omega)]
    simp only [Option.bind_some]
    rw [part_w 4 true hb (fun s' hs' => ihb (k + a.n) n s' hw.2 hv.2 hb (by omega) hs') (by rw [sz, sz, z4]; omega)]
    simp only [Option.bind_some, Cd.text, ByteArray.append_assoc]
  | or a b iha ihb =>
    intro k m s hw hv h hm hs
    simp only [Cd.n] at hm
    obtain ⟨n, rfl⟩ : ∃ n, m = n + 1 := ⟨m - 1, by omega⟩
    obtain ⟨h1, h2⟩ := h.last
    have ha : At c k (a.nodes k) := At.left h
    have hb : At c (k + a.n) (b.nodes (k + a.n)) := by have := (At.right h).left; rw [a.len] at this; exact this
    simp only [Cd.wf, Bool.and_eq_true] at hw
    have z4 : (⟨#[32, 92, 47, 32]⟩ : ByteArray).size = 4 := rfl
    simp only [Cd.text, sz, z4] at hs
    show cond_writer__node.body (cond_writer__node.f n) s c _ = _
    unfold cond_writer__node.body
    rw [if_pos (gt_in h1), h2]
    have e1 : (((Cd.or a b).top k).Op == 1) = false := rfl
    have e2 : (((Cd.or a b).top k).Op == 2) = false := rfl
    have e3 : (((Cd.or a b).top k).Op == 3) = false := rfl
    have e4 : (((Cd.or a b).top k).Op == 4) = false := rfl
    simp only [e1, e2, e3, e4, Bool.false_eq_true, if_false, if_true]
    have hA : ((Cd.or a b).top k).A = ((k + a.n - 1 : Nat) : Int) := rfl
    have hB : ((Cd.or a b).top k).B = ((k + a.n + b.n - 1 : Nat) : Int) := rfl
    have hO : ((Cd.or a b).top k).Op = 5 := rfl
    rw [hA, hB, hO, part_w 5 false ha (fun s' hs' => iha k n s' hw.1 hv.1 ha (by omega) hs') (by omega)]
    simp only [Option.bind_eq_bind, Option.bind_some]
    rw [wr (by rw [sz, z4]; omega)]
    simp only [Option.bind_some]
    rw [part_w 5 true hb (fun s' hs' => ihb (k + a.n) n s' hw.2 hv.2 hb (by omega) hs') (by rw [sz, sz, z4]; omega)]
    simp only [Option.bind_some, Cd.text, ByteArray.append_assoc]
theorem text_T {t : Cd} (h : t.wf = true) (hv : t.vals) (hn : t.n ≤ 1024) (hd : t.dep ≤ 64) : cond_Text.f (t.nodes 0) = some (t.text, 0) := by
  have hl : (t.nodes 0).length = t.n := t.len 0
  have hp := t.n_pos
  unfold cond_Text.f
  rw [check_T h hn hd]
  simp only [Option.bind_eq_bind, Option.bind_some]
  rw [if_neg (by decide), last_i (by omega) (by omega), hl]
  have hw := node_w (c := t.nodes 0) (by omega) t 0 fuelN (⟨#[]⟩ : ByteArray) h hv (at_self t) (by have := fuelN_ge; omega) (by have := text_size t h hv; rw [show (⟨#[]⟩ : ByteArray).size = 0 from rfl]; omega)
  rw [Nat.zero_add] at hw
  rw [hw, show ((⟨#[]⟩ : ByteArray) ++ t.text) = t.text from ByteArray.empty_append]
  rfl
end Go.Proofs.YtboejepakdnbgaaGreatDoor.K.C
