/- The law, plain: what both sides tell is alike. -/
import Derived.Test.YtcjaknnihjcajaaGreatGO
namespace Go.Proofs.YtcjaknnihjcajaaGreat.K
open Go Go.RowKit
theorem Holds_pd (a : api_Test) (f : api_Final) (hs : Csz a) : ∃ b e, verdict_Holds.f a f = some (b, e) ∧ weirref23_Holds.f a f = some (b, e) := by
 obtain ⟨p, e, o1, o2, ⟨w, o3⟩, o4⟩ := Of_pd a hs;unfold verdict_Holds.f verdict_ask.f weirref23_Holds.f weirref23_program.f;rw [o1, o2, o3];simp only [Option.bind_eq_bind, Option.bind_some]
 by_cases he : (e != 0) = true
 ·have hne : (e == 0) = false := by simpa using he
  rw [if_pos he, if_pos he];simp only [Option.bind_some, hne, Bool.false_eq_true, if_false];rw [if_pos he];exact ⟨false, e, rfl, rfl⟩
 rw [if_neg he, if_neg he]
 have e0 : e = 0 := by simpa using he
 obtain ⟨hk, hr, hl, hp⟩ := o4 e0;have hlen := nm_len hp;obtain ⟨n1, n2⟩ := names_pd p hp.rg hp.nms (by have := hp.lc; omega);rw [n1];simp only [Option.bind_some];rw [vfits_p _ _ (by simp [big]), vfits_d p _ (by simp [big]) n2];simp only [Option.bind_some];cases (rises [f] && !((List.range [f].length).any fun k => ((gt [f] (k : Int)).N != ((nm p).length : Int))))
 ·exact ⟨false, 100, rfl, rfl⟩
 ·simp only [Bool.not_true, Bool.false_eq_true, if_false];have hnd := nm_nodup hr hl;obtain ⟨m, m1, m2⟩ := ask_l (nm p) hnd (by unfold big; omega) (nm p).length 0 [] (by omega) (fun i hi => by omega);rw [show verdict_ask.l0 (nm p) 0 [] = _ from m1];simp only [Option.bind_some];obtain ⟨c1, c2, g, c3, c4, c5⟩ := hk.cond;obtain ⟨hv, h1, h2, h3⟩ := holds_v a.Cond g f a m [f] p hp c2 c3 c5 (fun j hj ho => by
   obtain ⟨i, i1, i2, i3⟩ := ix_mem hnd (kno_mem hr hl (hk.refs j hj ho));refine ⟨i, ?_, i3, by omega⟩
   rw [← i2]; exact m2 i i1) a.Cond.length [] (by simp) (fun j hj => by simp at hj)
  simp only [List.nil_append, List.length_nil] at h1;have hw : IntKind.i64.wrap ((a.Cond.length : Int) - 1) = ((a.Cond.length - 1 : Nat) : Int) := wsub1 (by omega) (by omega);have hfu := fuelN_ge;rw [hw, h3 (a.Cond.length - 1) (by omega) fuelN (by omega)]
  have hH : verdict_asked__holds.f a m [f] f = some (gt hv ((a.Cond.length - 1 : Nat) : Int)) := by
   unfold verdict_asked__holds.f cond_Holds.f;rw [hk.chk];simp only [Option.bind_eq_bind, Option.bind_some];rw [if_neg (by decide), if_pos (by omega), Int.toNat_natCast, show cond_Holds.l0 a.Cond f a m [f] 0 (List.replicate a.Cond.length false) = _ from h1];simp only [Option.bind_some, hw];rw [if_pos (by omega)]
   cases gt hv ((a.Cond.length - 1 : Nat) : Int) <;> rfl
  rw [hH];exact ⟨_, _, rfl, rfl⟩
theorem plain (p : api_Prog) (a : api_Test) (f : api_Final) (r : api_Ref) (h1 : Sized p) (h2 : Csz a) : weirlaw23_VerdictValues.f p a f r = some true := by
 obtain ⟨v, e, v1, v2⟩ := value_pd p f r h1;obtain ⟨b, c, b1, b2⟩ := Holds_pd a f h2;unfold weirlaw23_VerdictValues.f;rw [v1, v2, b1, b2];simp
theorem values_law (p : api_Prog) (a : api_Test) (f : api_Final) (r : api_Ref) (hp : ok_api_Prog p) (ha : ok_api_Test a) (hf : ok_api_Final f) (hr : ok_api_Ref r) : weirlaw23_VerdictValues.f p a f r = some true := by
 have hb : bnd ≤ 140737488351232 := by decide
 refine plain p a f r ?_ ?_
 ·obtain ⟨h1, h2, h3, -⟩ := hp
  have hB : ∀ n, n ≤ bnd → n ≤ big := fun n h => by unfold big; omega
  refine ⟨by unfold big; omega, fun t ht => ?_, by unfold big; omega, fun t ht => ?_, by unfold big; omega⟩
  ·have := (h1.2 (gt p.Threads (t : Int)) (by rw [gt_nat ht]; exact List.getElem_mem ht)).1;unfold big; omega
  ·have := (h2.2 (gt p.Regs (t : Int)) (by rw [gt_nat ht]; exact List.getElem_mem ht)).1;unfold big; omega
 ·obtain ⟨h1, h2, h3, h4, h5, h6⟩ := ha;refine ⟨fun t ht => ?_, by omega, by unfold big; omega, ?_⟩
  ·have := (h4.2 (gt a.Threads (t : Int)) (by rw [gt_nat ht]; exact List.getElem_mem ht)).1;omega
  ·have := h6.2.1;unfold big; omega
end Go.Proofs.YtcjaknnihjcajaaGreat.K
