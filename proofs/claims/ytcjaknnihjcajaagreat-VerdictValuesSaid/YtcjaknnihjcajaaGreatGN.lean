/- prog.Of and weirref09.Of tell the same program. -/
import Derived.Test.YtcjaknnihjcajaaGreatGM
namespace Go.Proofs.YtcjaknnihjcajaaGreat.K
open Go Go.RowKit
theorem num_in {l : List ByteArray} {s : ByteArray} (h : StrictS l) (hl : l.length ≤ big) (hm : s ∈ l) : weirref09_number.f l s = some (fi s l : Int) := by
 rw [num_d l s h hl, if_pos hm]
theorem mem_kr {a : api_Test} {t j : Nat} {s : ByteArray} (hj : j < (gt a.Threads (t : Int)).length) (hs : s ∈ nmT (gt (gt a.Threads (t : Int)) (j : Int))) : s ∈ kr a t := by
 unfold kr;refine insSs_mem.2 (.inr (List.mem_append_right _ (List.mem_flatMap.2 ⟨_, ?_, hs⟩)));rw [gt_nat hj]; exact List.getElem_mem hj
theorem mem_kl {a : api_Test} {t j : Nat} {s : ByteArray} (ht : t < a.Threads.length) (hj : j < (gt a.Threads (t : Int)).length) (hs : s ∈ nmL (gt (gt a.Threads (t : Int)) (j : Int))) : s ∈ kl a := by
 unfold kl;refine insSs_mem.2 (.inr (List.mem_append_right _ (List.mem_flatMap.2 ⟨gt a.Threads (t : Int), ?_, List.mem_flatMap.2 ⟨_, ?_, hs⟩⟩)))
 ·rw [gt_nat ht]; exact List.getElem_mem ht
 ·rw [gt_nat hj]; exact List.getElem_mem hj
theorem mem_ini {a : api_Test} {j : Nat} (hj : j < a.Inits.length) : (gt a.Inits (j : Int)).Ref.Name ∈ ini a.Inits (gt a.Inits (j : Int)).Ref.Thread := by
 unfold ini;refine List.mem_map.2 ⟨gt a.Inits (j : Int), List.mem_filter.2 ⟨?_, by simp⟩, rfl⟩;rw [gt_nat hj]; exact List.getElem_mem hj
def opU (u : prog_uses) (a : api_Test) (t : Nat) (x : api_Instr) : api_Op :=
 ⟨x.Op, if (x.Op == 8) = true then (fi ⟨#[69,65,88]⟩ (kr a t) : Int) else if u.reg = true then (fi x.Reg (kr a t) : Int) else 0, if u.src = true then (fi x.Src (kr a t) : Int) else 0, if u.loc = true then (fi x.Loc (kl a) : Int) else 0, x.Imm⟩
def opF (a : api_Test) (t : Nat) (x : api_Instr) : api_Op := opU (kd x.Op).1 a t x
theorem take_setl {α : Type} {L : List α} {k : Nat} {v : α} (h : k < L.length) : (setl L (k : Int) v).take (k + 1) = L.take k ++ [v] := by
 unfold setl;rw [Int.toNat_natCast];apply List.ext_getElem
 ·simp; omega
 ·intro i h1 h2;rw [List.getElem_take, List.getElem_set]
  by_cases e : k = i
  ·subst e; rw [if_pos rfl, List.getElem_append_right (by simp; omega)]; simp
  ·rw [if_neg e, List.getElem_append_left (by simp at h2 ⊢; omega), List.getElem_take]
theorem of_l2p (a : api_Test) (h : Tsz a) (t : Nat) (ht : t < a.Threads.length) : ∀ (n k : Nat) (L : List api_Op), k + n = (gt a.Threads (t : Int)).length → L.length = (gt a.Threads (t : Int)).length →
  prog_Of.l2 a (kn a) (t : Int) (k : Int) L = some (L.take k ++ ((gt a.Threads (t : Int)).drop k).map (opF a t)) := by
 have ho := h.ops t ht
 have hg : (0 ≤ (t : Int) ∧ (t : Int) < ((kn a).regs.length : Int)) := by rw [show (kn a).regs = krs a from rfl, krs_len]; omega
 have hp : ∀ s, prog_place.f (gt (kn a).regs (t : Int)) s = some (fi s (kr a t) : Int) := fun s => by
  rw [show (kn a).regs = krs a from rfl, krs_gt a ht, place_p _ _ (kr_st a t) (by have := kr_len a h t ht; unfold big; omega)]
 have hq : ∀ s, prog_place.f (kn a).locs s = some (fi s (kl a) : Int) := fun s => by
  rw [show (kn a).locs = kl a from rfl, place_p _ _ (kl_st a) (by have := kl_len a h; unfold big; omega)]
 intro n
 induction n with
 | zero =>
  intro k L hk hL;rw [prog_Of.l2, if_neg (dF (by omega)), List.drop_of_length_le (by omega), List.take_of_length_le (by omega)]; simp
 | succ n ih =>
  intro k L hk hL;rw [prog_Of.l2, if_pos (dT (by omega)), if_pos (by omega), drop_get (show k < (gt a.Threads (t : Int)).length by omega), List.map_cons];generalize gt (gt a.Threads (t : Int)) (k : Int) = x;rw [show opF a t x = opU (kd x.Op).1 a t x from rfl, kind_p];generalize kd x.Op = q;obtain ⟨u, b⟩ := q;simp only [Option.bind_eq_bind, Option.bind_some, if_pos hg, hp, hq]
  have fin : ∀ v, (if 0 ≤ (k : Int) ∧ (k : Int) < (L.length : Int) then prog_Of.l2 a (kn a) (t : Int) (IntKind.i64.wrap ((k : Int) + 1)) (setl L (k : Int) v) else none) = some (L.take k ++ v :: ((gt a.Threads (t : Int)).drop (k + 1)).map (opF a t)) := fun v => by
   rw [if_pos (by omega), w1 (by omega), ih (k + 1) _ (by omega) (by simp [setl, hL]), take_setl (by omega), List.append_assoc]; rfl
  unfold opU
  cases u.reg <;> cases u.src <;> cases (x.Op == 8) <;> cases u.loc <;> exact fin _
theorem of_l2d (a : api_Test) (h : Tsz a) (t : Nat) (ht : t < a.Threads.length) : ∀ (n k : Nat) (L : List api_Op), k + n = (gt a.Threads (t : Int)).length → L.length = k →
  weirref09_Of.l2 a (krs a) (kl a) (t : Int) L (k : Int) = some (L ++ ((gt a.Threads (t : Int)).drop k).map (opF a t)) := by
 have ho := h.ops t ht
 have hg : (0 ≤ (t : Int) ∧ (t : Int) < ((krs a).length : Int)) := by rw [krs_len]; omega
 intro n
 induction n with
 | zero =>
  intro k L hk hL;rw [weirref09_Of.l2, if_pos (by omega), if_neg (dF (by omega)), List.drop_of_length_le (by omega)]; simp
 | succ n ih =>
  intro k L hk hL
  have hk1 : k < (gt a.Threads (t : Int)).length := by omega
  have m1 : ∀ s, s ∈ nmT (gt (gt a.Threads (t : Int)) (k : Int)) → weirref09_number.f (kr a t) s = some (fi s (kr a t) : Int) := fun s hs => num_in (kr_st a t) (by have := kr_len a h t ht; unfold big; omega) (mem_kr hk1 hs);have m2 : ∀ s, s ∈ nmL (gt (gt a.Threads (t : Int)) (k : Int)) → weirref09_number.f (kl a) s = some (fi s (kl a) : Int) := fun s hs => num_in (kl_st a) (by have := kl_len a h; unfold big; omega) (mem_kl ht hk1 hs);rw [weirref09_Of.l2, if_pos (by omega), if_pos (dT (by omega)), if_pos (by omega), if_pos (by omega), drop_get hk1, List.map_cons]
  revert m1 m2
  generalize gt (gt a.Threads (t : Int)) (k : Int) = x;rw [show opF a t x = opU (kd x.Op).1 a t x from rfl, uses_d, show nmT x = evU (kd x.Op).1 x from rfl, show nmL x = (if (kd x.Op).1.loc = true then [x.Loc] else []) from rfl];generalize (kd x.Op).1 = u;intro m1 m2;simp only [Option.bind_eq_bind, Option.bind_some, if_pos hg, krs_gt a ht]
  have fin : ∀ v, (if (L.length + ([v] : List api_Op).length) * 40 ≤ 140737488355328 then weirref09_Of.l2 a (krs a) (kl a) (t : Int) (L ++ [v]) (IntKind.i64.wrap ((k : Int) + 1)) else none) = some (L ++ v :: ((gt a.Threads (t : Int)).drop (k + 1)).map (opF a t)) := fun v => by
   rw [if_pos (by simp only [List.length_cons, List.length_nil]; omega), w1 (by omega), ih (k + 1) _ (by omega) (by simp [hL]), List.append_assoc]; rfl
  have k1 : u.reg = true → weirref09_number.f (kr a t) x.Reg = some (fi x.Reg (kr a t) : Int) := fun e => m1 _ (by unfold evU; rw [e]; simp);have k2 : u.src = true → weirref09_number.f (kr a t) x.Src = some (fi x.Src (kr a t) : Int) := fun e => m1 _ (by unfold evU; rw [e]; simp);have k3 : (x.Op == 8) = true → weirref09_number.f (kr a t) ⟨#[69,65,88]⟩ = some (fi ⟨#[69,65,88]⟩ (kr a t) : Int) := fun e => m1 _ (by unfold evU; rw [e]; simp);have k4 : u.loc = true → weirref09_number.f (kl a) x.Loc = some (fi x.Loc (kl a) : Int) := fun e => m2 _ (by rw [e]; simp);unfold opU
  revert k1 k2 k3 k4
  cases u.reg <;> cases u.src <;> cases (x.Op == 8) <;> cases u.loc <;> intro k1 k2 k3 k4 <;> (try rw [k1 rfl]) <;> (try simp only [Option.bind_some, if_true]) <;> (try rw [k2 rfl]) <;> (try simp only [Option.bind_some, if_true]) <;> (try rw [k4 rfl]) <;> (try simp only [Option.bind_some, if_true]) <;> (try rw [k3 rfl]) <;> exact fin _
def thr (a : api_Test) : List (List api_Op) := (List.range a.Threads.length).map fun (t : Nat) => (gt a.Threads (t : Int)).map (opF a t)
def ri0 (a : api_Test) : List (List Int) := (List.range a.Threads.length).map fun t => List.replicate (kr a t).length (0 : Int)
theorem of_l0p (a : api_Test) (h : Cok a) : ∀ (n k : Nat) (T : List (List api_Op)) (R : List (List Int)), k + n = a.Threads.length → T = (List.range k).map (fun (t : Nat) => (gt a.Threads (t : Int)).map (opF a t)) → R = (List.range k).map (fun t => List.replicate (kr a t).length (0 : Int)) →
  prog_Of.l0 a (kn a) (k : Int) T R = some (thr a, ri0 a) ∧ weirref09_Of.l0 a (krs a) (kl a) (k : Int) T R = some (thr a, ri0 a) := by
 have h4 := h.sz.th;intro n
 induction n with
 | zero =>
  intro k T R hk hT hR
  have g1 : ¬ (k : Int) < (a.Threads.length : Int) := by omega
  rw [prog_Of.l0, weirref09_Of.l0, krs_len, if_neg (dF g1), if_neg (dF g1), hT, hR, show k = a.Threads.length by omega]; exact ⟨rfl, rfl⟩
 | succ n ih =>
  intro k T R hk hT hR;have ho := h.sz.ops k (by omega);have hr8 := h.regs k (by omega);have p2 := of_l2p a h.sz k (by omega) (gt a.Threads (k : Int)).length 0 (List.replicate (gt a.Threads (k : Int)).length (⟨0,0,0,0,0⟩ : api_Op)) (by omega) (by simp);have d2 := of_l2d a h.sz k (by omega) (gt a.Threads (k : Int)).length 0 [] (by omega) rfl;rw [List.take_zero, List.drop_zero, List.nil_append] at p2;rw [List.drop_zero, List.nil_append] at d2
  have hTl : T.length ≤ 4 := by rw [hT]; simp; omega
  have hRl : R.length ≤ 4 := by rw [hR]; simp; omega
  have hk4 : k < a.Threads.length := by omega
  obtain ⟨i1, i2⟩ := ih (k + 1) (T ++ [(gt a.Threads (k : Int)).map (opF a k)]) (R ++ [List.replicate (kr a k).length (0 : Int)]) (by omega) (by rw [hT, List.range_succ, List.map_append]; rfl) (by rw [hR, List.range_succ, List.map_append]; rfl);constructor
  ·rw [prog_Of.l0, if_pos (dT (by omega)), if_pos (by omega), if_pos (by omega), Int.toNat_natCast, show prog_Of.l2 a (kn a) (k : Int) 0 _ = _ from p2];simp only [Option.bind_eq_bind, Option.bind_some];rw [if_pos (by omega), show (kn a).regs = krs a from rfl, krs_len, if_pos (by omega), krs_gt a hk4, if_pos (by omega), if_pos (by omega), w1 (by omega), Int.toNat_natCast];exact i1
  ·rw [weirref09_Of.l0, krs_len, if_pos (dT (by omega)), if_pos (by omega), krs_gt a hk4, if_pos (by omega), if_pos (by omega), show weirref09_Of.l2 a (krs a) (kl a) (k : Int) [] 0 = _ from d2];simp only [Option.bind_eq_bind, Option.bind_some];rw [if_pos (by omega), w1 (by omega), Int.toNat_natCast];exact i2
theorem gt_set {α : Type} [Inhabited α] {L : List α} {i j : Nat} {v : α} (hi : i < L.length) (hj : j < L.length) : gt (setl L (i : Int) v) (j : Int) = if j = i then v else gt L (j : Int) := by
 rw [gt_nat (by simpa [setl] using hj), gt_nat hj];unfold setl;simp only [Int.toNat_natCast, List.getElem_set]
 by_cases e : i = j
 ·rw [if_pos e, if_pos e.symm]
 ·rw [if_neg e, if_neg (fun x => e x.symm)]
theorem of_l1 (a : api_Test) (h : Cok a) : ∀ (n k : Nat) (LI : List Int) (RI : List (List Int)), k + n = a.Inits.length → LI.length = (kl a).length → RI.length = a.Threads.length → (∀ t, t < a.Threads.length → (gt RI (t : Int)).length = (kr a t).length) →
  ∃ r l, prog_Of.l1 a (kn a) (k : Int) LI RI = some (r, l) ∧ weirref09_Of.l1 a (krs a) (kl a) (k : Int) LI RI = some (r, l) ∧ l.length = (kl a).length ∧ r.length = a.Threads.length ∧ (∀ t, t < a.Threads.length → (gt r (t : Int)).length = (kr a t).length) := by
 have h4 := h.sz.ini;have hlc := h.locs;intro n
 induction n with
 | zero =>
  intro k LI RI hk h1 h2 h3
  have g1 : ¬ (k : Int) < (a.Inits.length : Int) := by omega
  rw [prog_Of.l1, weirref09_Of.l1, if_neg (dF g1), if_neg (dF g1)];exact ⟨_, _, rfl, rfl, h1, h2, h3⟩
 | succ n ih =>
  intro k LI RI hk h1 h2 h3
  have g1 : (k : Int) < (a.Inits.length : Int) := by omega
  have g2 : 0 ≤ (k : Int) ∧ (k : Int) < (a.Inits.length : Int) := by omega
  have hm := mem_ini (a := a) (j := k) (by omega);have hin := h.inok k (by omega);unfold inok inF at hin;rw [prog_Of.l1, weirref09_Of.l1, if_pos (dT g1), if_pos g2, if_pos (dT g1), if_pos g2, show (kn a).locs = kl a from rfl, show (kn a).regs = krs a from rfl];simp only [if_pos g2]
  revert hm hin
  generalize gt a.Inits (k : Int) = x;intro hm hin
  by_cases c1 : x.Ref.Thread = -1
  ·rw [c1] at hm
   have hm2 : x.Ref.Name ∈ kl a := by unfold kl; exact insSs_mem.2 (.inr (List.mem_append_left _ hm))
   obtain ⟨f1, f2⟩ := fi_mem (kl_st a) hm2
   have b2 : (x.Ref.Thread == -1) = true := by simp [c1]
   simp only [b2, if_true];rw [place_p _ _ (kl_st a) (by unfold big; omega), num_in (kl_st a) (by unfold big; omega) hm2];simp only [Option.bind_eq_bind, Option.bind_some, id]
   have g3 : 0 ≤ (fi x.Ref.Name (kl a) : Int) ∧ (fi x.Ref.Name (kl a) : Int) < (LI.length : Int) := by omega
   rw [if_pos g3, if_pos g3, w1 (by omega)];exact ih (k + 1) _ _ (by omega) (by simpa [setl] using h1) h2 h3
  ·obtain ⟨t, ht⟩ : ∃ t : Nat, x.Ref.Thread = (t : Int) := ⟨x.Ref.Thread.toNat, by omega⟩;rw [ht] at hm
   have ht2 : t < a.Threads.length := by omega
   have hr8 := h.regs t ht2
   have hm2 : x.Ref.Name ∈ kr a t := by unfold kr; exact insSs_mem.2 (.inr (List.mem_append_left _ hm))
   obtain ⟨f1, f2⟩ := fi_mem (kr_st a t) hm2
   have b2 : (x.Ref.Thread == -1) = false := by simp [c1]
   simp only [b2, Bool.false_eq_true, if_false, ht, krs_len, krs_gt a ht2];rw [place_p _ _ (kr_st a t) (by unfold big; omega), num_in (kr_st a t) (by unfold big; omega) hm2];simp only [Option.bind_eq_bind, Option.bind_some, id]
   have g3 : 0 ≤ (t : Int) ∧ (t : Int) < (RI.length : Int) := by omega
   have g4 : 0 ≤ (t : Int) ∧ (t : Int) < (a.Threads.length : Int) := by omega
   have g5 : 0 ≤ (fi x.Ref.Name (kr a t) : Int) ∧ (fi x.Ref.Name (kr a t) : Int) < ((gt RI (t : Int)).length : Int) := by have := h3 t ht2; omega
   simp only [if_pos g3, if_pos g4, if_pos g5];rw [w1 (by omega)];refine ih (k + 1) _ _ (by omega) h1 (by simpa [setl] using h2) (fun s hs => ?_);rw [gt_set (by omega) (by omega)]
   by_cases e : s = t
   ·rw [if_pos e, e]; simp only [setl, List.length_set]; exact h3 t ht2
   ·rw [if_neg e]; exact h3 s hs
theorem Of_pd (a : api_Test) (hs : Csz a) : ∃ p e, prog_Of.f a = some (p, e) ∧ weirref09_Of.f a = some (p, e) ∧ (∃ w, weirref09_Check.f a = some (w, e)) ∧
  (e = 0 → Cok a ∧ p.Regs = krs a ∧ p.Locs = kl a ∧ Nok p) := by
 obtain ⟨w, e, c1, c2, c3⟩ := Check_pd a hs;unfold prog_Of.f weirref09_Of.f;rw [c1, c2];simp only [Option.bind_eq_bind, Option.bind_some]
 by_cases he : (e != 0) = true
 ·rw [if_pos he, if_pos he]; exact ⟨_, _, rfl, rfl, ⟨w, rfl⟩, fun h => by rw [h] at he; cases he⟩
 rw [if_neg he, if_neg he]
 have e0 : e = 0 := by simpa using he
 have h := c3 e0;have hlc := h.locs;obtain ⟨q1, q2⟩ := of_l0p a h a.Threads.length 0 [] [] (by omega) rfl rfl;obtain ⟨r, l, o1, o2, -⟩ := of_l1 a h a.Inits.length 0 (List.replicate (kl a).length (0 : Int)) (ri0 a) (by omega) (by simp) (by unfold ri0; simp) (fun t ht => by
  unfold ri0;rw [gt_nat (by simpa using ht)]; simp)
 rw [names_p a h.sz, named_d a h.sz];simp only [Option.bind_some]
 have g1 : 0 ≤ ((kl a).length : Int) ∧ ((kl a).length : Int) * 8 ≤ 140737488355328 := by omega
 rw [show (kn a).locs = kl a from rfl, if_pos g1, if_pos g1, show prog_Of.l0 a (kn a) 0 [] [] = _ from q1, show weirref09_Of.l0 a (krs a) (kl a) 0 [] [] = _ from q2, Int.toNat_natCast];simp only [Option.bind_some];rw [show prog_Of.l1 a (kn a) 0 _ _ = _ from o1, show weirref09_Of.l1 a (krs a) (kl a) 0 _ _ = _ from o2];refine ⟨_, _, rfl, rfl, ⟨w, by rw [e0]⟩, fun _ => ⟨h, rfl, rfl, ⟨?_, ?_, h.locs⟩⟩⟩
 ·show (krs a).length ≤ 4;rw [krs_len]; exact h.sz.th
 ·intro t ht;have ht' : t < (krs a).length := ht;rw [krs_len] at ht';show (gt (krs a) (t : Int)).length ≤ 8;rw [krs_gt a ht']; exact h.regs t ht'
end Go.Proofs.YtcjaknnihjcajaaGreat.K
