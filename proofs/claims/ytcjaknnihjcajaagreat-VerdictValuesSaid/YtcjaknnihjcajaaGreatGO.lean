/- A condition at a final state: both sides. -/
import Derived.Test.YtcjaknnihjcajaaGreatGN
namespace Go.Proofs.YtcjaknnihjcajaaGreat.K
open Go Go.RowKit
theorem gt_inj2 {α : Type} [Inhabited α] {l : List α} (h : l.Nodup) {i j : Nat} (hi : i < l.length) (hj : j < l.length) (e : gt l (i : Int) = gt l (j : Int)) : i = j := by
 rw [gt_nat hi, gt_nat hj] at e;have hp := List.pairwise_iff_getElem.1 h
 rcases Nat.lt_trichotomy i j with h1 | h1 | h1
 ·exact absurd e (hp i j hi hj h1)
 ·exact h1
 ·exact absurd e.symm (hp j i hj hi h1)
theorem ask_l (l : List api_Ref) (hn : l.Nodup) (hl : l.length ≤ big) : ∀ (n k : Nat) (m : List (api_Ref × Int)), k + n = l.length → (∀ i : Nat, i < k → mget m (gt l (i : Int)) = some (i : Int)) →
  ∃ m', verdict_ask.l0 l (k : Int) m = some m' ∧ ∀ i : Nat, i < l.length → mget m' (gt l (i : Int)) = some (i : Int) := by
 unfold big at hl;intro n
 induction n with
 | zero =>
  intro k m hk hm;rw [verdict_ask.l0, if_neg (dF (by omega))];exact ⟨m, rfl, fun i hi => hm i (by omega)⟩
 | succ n ih =>
  intro k m hk hm;rw [verdict_ask.l0, if_pos (dT (by omega)), if_pos (by omega), w1 (by omega)];refine ih (k + 1) _ (by omega) (fun i hi => ?_);rw [mget_mput]
  by_cases e : gt l (k : Int) = gt l (i : Int)
  ·rw [if_pos e, gt_inj2 hn (by omega) (by omega) e]
  ·rw [if_neg e];refine hm i ?_
   by_cases e2 : i = k
   ·rw [e2] at e; exact absurd rfl e
   ·omega
theorem mem_nmR {rs : List (List ByteArray)} {t : Nat} {s : ByteArray} (hs : s ∈ gt rs (t : Int)) : ∀ n k, k ≤ t → t < k + n → (⟨(t : Int), s⟩ : api_Ref) ∈ nmR rs n k
 | 0, k, h1, h2 => by omega
 | n + 1, k, h1, h2 => by
  unfold nmR
  by_cases e : k = t
  ·subst e; exact List.mem_append_left _ (List.mem_map.2 ⟨s, hs, rfl⟩)
  ·exact List.mem_append_right _ (mem_nmR hs n (k + 1) (by omega) (by omega))
theorem nmR_th {rs : List (List ByteArray)} {r : api_Ref} : ∀ n k, r ∈ nmR rs n k → (k : Int) ≤ r.Thread
 | 0, k, h => by simp [nmR] at h
 | n + 1, k, h => by
  unfold nmR at h
  rcases List.mem_append.1 h with h | h
  ·obtain ⟨s, _, rfl⟩ := List.mem_map.1 h; exact Int.le_refl _
  ·have := nmR_th n (k + 1) h; omega
theorem strict_nodup {l : List ByteArray} (h : StrictS l) : l.Nodup := h.imp (fun {a b} hab e => by subst e; rw [slt_irrefl] at hab; cases hab)
theorem map_nodup {i : Int} {l : List ByteArray} (h : l.Nodup) : (l.map fun s => (⟨i, s⟩ : api_Ref)).Nodup := by
 rw [List.nodup_iff_pairwise_ne] at *;exact List.Pairwise.map _ (fun a b hab e => hab (by injection e)) h
theorem nmR_nodup {rs : List (List ByteArray)} (h : ∀ t, t < rs.length → StrictS (gt rs (t : Int))) : ∀ n k, k + n = rs.length → (nmR rs n k).Nodup
 | 0, k, _ => by simp [nmR]
 | n + 1, k, hk => by
  unfold nmR;refine List.nodup_append.2 ⟨map_nodup (strict_nodup (h k (by omega))), nmR_nodup h n (k + 1) (by omega), fun a ha b hb e => ?_⟩;obtain ⟨s, _, rfl⟩ := List.mem_map.1 ha;have := nmR_th n (k + 1) hb;rw [← e] at this;simp only at this; omega
theorem nm_nodup {a : api_Test} {p : api_Prog} (h1 : p.Regs = krs a) (h2 : p.Locs = kl a) : (nm p).Nodup := by
 unfold nm;refine List.nodup_append.2 ⟨nmR_nodup (fun t ht => ?_) _ _ (by omega), ?_, fun x hx y hy e => ?_⟩
 ·rw [h1] at ht ⊢; rw [krs_len] at ht; rw [krs_gt a ht]; exact kr_st a t
 ·rw [h2]; exact map_nodup (strict_nodup (kl_st a))
 ·have := nmR_th _ _ hx;obtain ⟨s, _, rfl⟩ := List.mem_map.1 hy;rw [e] at this; simp only at this; omega
theorem kno_mem {a : api_Test} {p : api_Prog} (h1 : p.Regs = krs a) (h2 : p.Locs = kl a) {r : api_Ref} (h : kno a r = true) : r ∈ nm p := by
 unfold kno at h;unfold nm
 split at h
 ·rename_i c
  refine List.mem_append_right _ (List.mem_map.2 ⟨r.Name, ?_, ?_⟩)
  ·rw [h2]; exact of_decide_eq_true h
  ·rw [← c]
 ·split at h
  ·rename_i c
   obtain ⟨t, ht⟩ : ∃ t : Nat, r.Thread = (t : Int) := ⟨r.Thread.toNat, by omega⟩
   have ht2 : t < a.Threads.length := by omega
   rw [ht, Int.toNat_natCast] at h;have hm := of_decide_eq_true h;have := mem_nmR (rs := p.Regs) (t := t) (s := r.Name) (by rw [h1, krs_gt a ht2]; exact hm) p.Regs.length 0 (by omega) (by rw [h1, krs_len]; omega);rw [← ht] at this;exact List.mem_append_left _ this
  ·cases h
theorem ix_mem {l : List api_Ref} {r : api_Ref} (hn : l.Nodup) (h : r ∈ l) : ∃ i : Nat, i < l.length ∧ gt l (i : Int) = r ∧ ix l r = (i : Int) := by
 obtain ⟨i, hi, e⟩ := List.mem_iff_getElem.1 h
 have e' : gt l (i : Int) = r := by rw [gt_nat hi]; exact e
 refine ⟨i, hi, e', ?_⟩;unfold ix
 cases ho : ixO l r with
 | none =>
  exfalso
  unfold ixO at ho;have := sea_none.1 ho i (by omega) (by omega);rw [if_pos (dT e')] at this; cases this
 | some j =>
  obtain ⟨b1, b2, b3, -⟩ := ixO_b ho;obtain ⟨j', rfl⟩ : ∃ j' : Nat, j = (j' : Int) := ⟨j.toNat, by omega⟩;rw [gt_inj2 hn hi (by omega) (e'.trans b3.symm)]; rfl
theorem fd_op {n : api_Node} (h : fd n = true) : n.Op = 1 ∨ n.Op = 2 ∨ n.Op = 3 ∨ n.Op = 4 ∨ n.Op = 5 := by
 unfold fd at h
 split at h
 ·omega
 split at h
 ·omega
 split at h
 ·omega
 split at h
 ·omega
 ·cases h
theorem setl_snoc (hs : List Bool) (n : Nat) (b : Bool) : setl (hs ++ List.replicate (n + 1) false) (hs.length : Int) b = (hs ++ [b]) ++ List.replicate n false := by
 unfold setl;rw [Int.toNat_natCast, List.replicate_succ]; simp
theorem gt_app (hs : List Bool) (r : List Bool) (a : Nat) (h : a < hs.length) : gt (hs ++ r) (a : Int) = gt hs (a : Int) := by
 rw [gt_nat (by rw [List.length_append]; omega), gt_nat h, List.getElem_append_left h]
theorem gt_last (hs : List Bool) (b : Bool) : gt (hs ++ [b]) (hs.length : Int) = b := by
 rw [gt_nat (by simp)]; simp
theorem holds_v (c : List api_Node) (g : Nat → Nat) (f : api_Final) (a : api_Test) (m : List (api_Ref × Int)) (fs : List api_Final) (p : api_Prog) (hp : Nok p) (hc : c.length ≤ 1024) (hw : Wf c g c.length) (hf : ∀ j, j < c.length → fd (gt c (j : Int)) = true)
  (hr : ∀ j, j < c.length → (gt c (j : Int)).Op = 2 → ∃ i : Nat, mget m (gt c (j : Int)).Ref = some (i : Int) ∧ ix (nm p) (gt c (j : Int)).Ref = (i : Int) ∧ i < 48) :
  ∀ (n : Nat) (hv : List Bool), hv.length + n = c.length → (∀ j, j < hv.length → ∀ q, j < q → weirref23_holds.f q p c (j : Int) f = some (gt hv (j : Int))) →
  ∃ hv', cond_Holds.l0 c f a m fs (hv.length : Int) (hv ++ List.replicate n false) = some hv' ∧ hv'.length = c.length ∧ ∀ j, j < c.length → ∀ q, j < q → weirref23_holds.f q p c (j : Int) f = some (gt hv' (j : Int)) := by
 intro n
 induction n with
 | zero =>
  intro hv ht hq;rw [cond_Holds.l0, if_neg (dF (by omega))];exact ⟨hv, by simp, by omega, fun j hj => hq j (by omega)⟩
 | succ n ih =>
  intro hv ht hq
  have h1 : hv.length < c.length := by omega
  have gi : (0 : Int) ≤ (hv.length : Int) ∧ (hv.length : Int) < (c.length : Int) := by omega
  have gl : (0 : Int) ≤ (hv.length : Int) ∧ (hv.length : Int) < ((hv ++ List.replicate (n + 1) false).length : Int) := by simp only [List.length_append, List.length_replicate]; omega
  have hfd := hf _ h1;obtain ⟨w1', w3, w45⟩ := hw _ h1;have hrn := hr _ h1
  have next : ∀ b : Bool, (∀ q, hv.length < q → weirref23_holds.f q p c (hv.length : Int) f = some b) → ∃ hv', cond_Holds.l0 c f a m fs ((hv.length + 1 : Nat) : Int) (setl (hv ++ List.replicate (n + 1) false) (hv.length : Int) b) = some hv' ∧ hv'.length = c.length ∧ ∀ j, j < c.length → ∀ q, j < q → weirref23_holds.f q p c (j : Int) f = some (gt hv' (j : Int)) := by
   intro b hb;have := ih (hv ++ [b]) (by simp only [List.length_append, List.length_cons, List.length_nil]; omega) (fun j hj q hjq => by
    simp only [List.length_append, List.length_cons, List.length_nil] at hj
    by_cases e : j = hv.length
    ·rw [e, gt_last]; exact hb q (by omega)
    ·rw [gt_app _ _ _ (by omega)]; exact hq j (by omega) q hjq)
   rw [setl_snoc];simp only [List.length_append, List.length_cons, List.length_nil] at this;exact this
  have hbody : ∀ (b : Bool), (∀ q, hv.length ≤ q → weirref23_holds.body (weirref23_holds.f q) p c (hv.length : Int) f = some b) → ∀ q, hv.length < q → weirref23_holds.f q p c (hv.length : Int) f = some b := by
   intro b hb q hlt;obtain ⟨q', rfl⟩ : ∃ q', q = q' + 1 := ⟨q - 1, by omega⟩;exact hb q' (by omega)
  rw [cond_Holds.l0, if_pos (decide_eq_true gi.2)];simp only [if_pos gi, if_pos gl, w1 (show hv.length < 9223372036854775807 by omega), Option.bind_eq_bind];unfold weirref23_holds.body at hbody;simp only [if_pos gi, Option.bind_eq_bind] at hbody;generalize gt c (hv.length : Int) = nd at *
  have part : ∀ j : Nat, j < hv.length → ∀ x : Int, x = (j : Int) → (0 : Int) ≤ x ∧ x < ((hv ++ List.replicate (n + 1) false).length : Int) ∧ gt (hv ++ List.replicate (n + 1) false) x = gt hv x ∧ ∀ q, hv.length ≤ q → weirref23_holds.f q p c x f = some (gt hv x) := by
   rintro j hj x rfl;exact ⟨by omega, by simp only [List.length_append, List.length_replicate]; omega, gt_app _ _ _ hj, fun q hqq => hq j hj q (by omega)⟩
  rcases fd_op hfd with ho | ho | ho | ho | ho
  ·simp only [ho, show ((1 : Int) == 1) = true from rfl, show ((1 : Int) == 2) = false from rfl, show ((1 : Int) == 3) = false from rfl, show ((1 : Int) == 4) = false from rfl, show ((1 : Int) == 5) = false from rfl, if_true, if_false, Bool.false_eq_true] at hbody ⊢
   exact next true (hbody true (fun q hqq => rfl))
  ·obtain ⟨i, k1, k2, k3⟩ := hrn ho;have hi := (index_pd p nd.Ref hp).2
   have e1 : verdict_asked__holds_1.f nd.Ref f a m fs = some (vget f.V (i : Int)) := by
    unfold verdict_asked__holds_1.f;rw [k1, Option.getD_some, if_pos (by omega)]
   have g8 : 0 ≤ (i : Int) ∧ (i : Int) < 48 := by omega
   rw [k2] at hi;simp only [ho, show ((2 : Int) == 1) = false from rfl, show ((2 : Int) == 2) = true from rfl, if_true, if_false, Bool.false_eq_true, e1, hi, Option.bind_some, if_pos g8] at hbody ⊢;cases hb : (vget f.V (i : Int) == nd.Value)
   ·rw [hb] at hbody; simp only [Bool.false_eq_true, if_false]; exact next false (hbody false (fun q hqq => rfl))
   ·rw [hb] at hbody; simp only [if_true]; exact next true (hbody true (fun q hqq => rfl))
  ·obtain ⟨j1, j2, _⟩ := w3 ho;obtain ⟨p1, p2, p3, p4⟩ := part (hv.length - 1) (by omega) nd.A j2;simp only [ho, show ((3 : Int) == 1) = false from rfl, show ((3 : Int) == 2) = false from rfl, show ((3 : Int) == 3) = true from rfl, if_true, if_false, Bool.false_eq_true, if_pos (And.intro p1 p2), p3] at hbody ⊢;cases hA : gt hv nd.A
   ·simp only [Bool.false_eq_true, if_false]; exact next true (hbody true (fun q hqq => by rw [p4 q hqq, hA]; rfl))
   ·simp only [if_true]; exact next false (hbody false (fun q hqq => by rw [p4 q hqq, hA]; rfl))
  ·obtain ⟨j1, j2, j3, j4, _⟩ := w45 (.inl ho);have hgj := (hw (hv.length - 1) (by omega)).1;obtain ⟨p1, p2, p3, p4⟩ := part (hv.length - 1) (by omega) nd.B j2;obtain ⟨r1, r2, r3, r4⟩ := part (g (hv.length - 1) - 1) (by omega) nd.A j4;simp only [ho, show ((4 : Int) == 1) = false from rfl, show ((4 : Int) == 2) = false from rfl, show ((4 : Int) == 3) = false from rfl, show ((4 : Int) == 4) = true from rfl, if_true, if_false, Bool.false_eq_true, if_pos (And.intro p1 p2), if_pos (And.intro r1 r2), p3, r3] at hbody ⊢;cases hA : gt hv nd.A
   ·simp only [Bool.false_eq_true, if_false]; exact next false (hbody false (fun q hqq => by rw [r4 q hqq, hA]; rfl))
   ·simp only [if_true];cases hB : gt hv nd.B
    ·simp only [Bool.false_eq_true, if_false]; exact next false (hbody false (fun q hqq => by rw [r4 q hqq, hA]; simp only [Option.bind_some, if_true]; rw [p4 q hqq, hB]; rfl))
    ·simp only [if_true]; exact next true (hbody true (fun q hqq => by rw [r4 q hqq, hA]; simp only [Option.bind_some, if_true]; rw [p4 q hqq, hB]; rfl))
  ·obtain ⟨j1, j2, j3, j4, _⟩ := w45 (.inr ho);have hgj := (hw (hv.length - 1) (by omega)).1;obtain ⟨p1, p2, p3, p4⟩ := part (hv.length - 1) (by omega) nd.B j2;obtain ⟨r1, r2, r3, r4⟩ := part (g (hv.length - 1) - 1) (by omega) nd.A j4;simp only [ho, show ((5 : Int) == 1) = false from rfl, show ((5 : Int) == 2) = false from rfl, show ((5 : Int) == 3) = false from rfl, show ((5 : Int) == 4) = false from rfl, show ((5 : Int) == 5) = true from rfl, if_true, if_false, Bool.false_eq_true, if_pos (And.intro p1 p2), if_pos (And.intro r1 r2), p3, r3] at hbody ⊢;cases hA : gt hv nd.A
   ·simp only [Bool.false_eq_true, if_false];cases hB : gt hv nd.B
    ·simp only [Bool.false_eq_true, if_false]; exact next false (hbody false (fun q hqq => by rw [r4 q hqq, hA]; simp only [Option.bind_some, Bool.false_eq_true, if_false]; rw [p4 q hqq, hB]; rfl))
    ·simp only [if_true]; exact next true (hbody true (fun q hqq => by rw [r4 q hqq, hA]; simp only [Option.bind_some, Bool.false_eq_true, if_false]; rw [p4 q hqq, hB]; rfl))
   ·simp only [if_true]; exact next true (hbody true (fun q hqq => by rw [r4 q hqq, hA]; rfl))
end Go.Proofs.YtcjaknnihjcajaaGreat.K
