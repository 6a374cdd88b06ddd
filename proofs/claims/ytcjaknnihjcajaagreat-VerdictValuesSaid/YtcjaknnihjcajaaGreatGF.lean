/- Programs: names of values, their numbers; a final state's value. -/
import Derived.Test.YtcjaknnihjcajaaGreatGE
namespace Go.Proofs.YtcjaknnihjcajaaGreat.K
open Go
def rfs (i : Nat) (l : List ByteArray) : List api_Ref := l.map fun s => ⟨(i : Int), s⟩
def lfs (l : List ByteArray) : List api_Ref := l.map fun s => ⟨-1, s⟩
def nmR (rs : List (List ByteArray)) : Nat → Nat → List api_Ref
 | 0, _ => []
 | n + 1, k => rfs k (gt rs (k : Int)) ++ nmR rs n (k + 1)
def nm (p : api_Prog) : List api_Ref := nmR p.Regs p.Regs.length 0 ++ lfs p.Locs
theorem nmR_len (rs : List (List ByteArray)) (h : ∀ t, t < rs.length → (gt rs (t : Int)).length ≤ 8) : ∀ n k, k + n = rs.length → (nmR rs n k).length ≤ 8 * n
 | 0, _, _ => by simp [nmR]
 | n + 1, k, hk => by
  have := nmR_len rs h n (k + 1) (by omega);have h2 := h k (by omega);simp only [nmR, rfs, List.length_append, List.length_map]; omega
structure Nok (p : api_Prog) : Prop where
 rg : p.Regs.length ≤ 4
 nms : ∀ t, t < p.Regs.length → (gt p.Regs (t : Int)).length ≤ 8
 lc : p.Locs.length ≤ 16
theorem Vok.nok {p : api_Prog} (h : Vok p) : Nok p := ⟨by have := h.rg; have := h.th; omega, h.nms, h.lc⟩
theorem nm_len {p : api_Prog} (h : Nok p) : (nm p).length ≤ 48 := by
 have := nmR_len p.Regs h.nms p.Regs.length 0 (by omega);have h1 := h.rg; have h3 := h.lc;unfold nm lfs;rw [List.length_append, List.length_map]; omega
theorem drop_get {α : Type} [Inhabited α] {l : List α} {k : Nat} (h : k < l.length) : l.drop k = gt l (k : Int) :: l.drop (k + 1) := by
 rw [gt_nat h, List.drop_eq_getElem_cons h]
theorem names_l2 (p : api_Prog) (i : Nat) (hi : i < p.Regs.length) (hg : (gt p.Regs (i : Int)).length ≤ 100000) : ∀ (n k : Nat) (acc : List api_Ref), k + n = (gt p.Regs (i : Int)).length → acc.length + n ≤ 100000 →
  prog_Names.l2 p (i : Int) acc (k : Int) = some (acc ++ rfs i ((gt p.Regs (i : Int)).drop k)) ∧ weirref09_Names.l2 p (i : Int) acc (k : Int) = some (acc ++ rfs i ((gt p.Regs (i : Int)).drop k)) := by
 intro n
 induction n with
 | zero =>
  intro k acc hk ha;rw [prog_Names.l2, weirref09_Names.l2, if_neg (dF (by omega)), if_pos (by omega), if_neg (dF (by omega)), List.drop_of_length_le (by omega)];simp [rfs]
 | succ n ih =>
  intro k acc hk ha;rw [prog_Names.l2, weirref09_Names.l2, if_pos (dT (by omega)), if_pos (by omega), if_pos (by simp; omega), if_pos (by omega), if_pos (dT (by omega)), if_pos (by omega), if_pos (by omega), if_pos (by simp; omega), w1 (by omega)];obtain ⟨e1, e2⟩ := ih (k + 1) (acc ++ [⟨(i : Int), gt (gt p.Regs (i : Int)) (k : Int)⟩]) (by omega) (by simp; omega);rw [e1, e2, drop_get (show k < (gt p.Regs (i : Int)).length by omega)];simp [rfs]
theorem names_l0 (p : api_Prog) (h : ∀ t, t < p.Regs.length → (gt p.Regs (t : Int)).length ≤ 8) (hr : p.Regs.length ≤ 4) : ∀ (n k : Nat) (acc : List api_Ref), k + n = p.Regs.length → acc.length ≤ 8 * k →
  prog_Names.l0 p acc (k : Int) = some (acc ++ nmR p.Regs n k) ∧ weirref09_Names.l0 p acc (k : Int) = some (acc ++ nmR p.Regs n k) := by
 intro n
 induction n with
 | zero =>
  intro k acc hk ha;rw [prog_Names.l0, weirref09_Names.l0, if_neg (dF (by omega)), if_neg (dF (by omega))];simp [nmR]
 | succ n ih =>
  intro k acc hk ha;have h8 := h k (by omega);obtain ⟨e1, e2⟩ := names_l2 p k (by omega) (by omega) (gt p.Regs (k : Int)).length 0 acc (by omega) (by omega);have e1' : prog_Names.l2 p (k : Int) acc 0 = _ := e1;have e2' : weirref09_Names.l2 p (k : Int) acc 0 = _ := e2;rw [prog_Names.l0, weirref09_Names.l0, if_pos (dT (by omega)), if_pos (by omega), if_pos (dT (by omega)), e1', e2'];simp only [Option.bind_eq_bind, Option.bind_some, List.drop_zero];rw [w1 (by omega)];obtain ⟨f1, f2⟩ := ih (k + 1) (acc ++ rfs k (gt p.Regs (k : Int))) (by omega) (by simp [rfs]; omega);rw [f1, f2, List.append_assoc];exact ⟨rfl, rfl⟩
theorem names_l1 (p : api_Prog) (hl : p.Locs.length ≤ 100000) : ∀ (n k : Nat) (acc : List api_Ref), k + n = p.Locs.length → acc.length + n ≤ 200000 →
  prog_Names.l1 p acc (k : Int) = some (acc ++ lfs (p.Locs.drop k)) ∧ weirref09_Names.l1 p acc (k : Int) = some (acc ++ lfs (p.Locs.drop k)) := by
 intro n
 induction n with
 | zero =>
  intro k acc hk ha;rw [prog_Names.l1, weirref09_Names.l1, if_neg (dF (by omega)), if_neg (dF (by omega)), List.drop_of_length_le (by omega)];simp [lfs]
 | succ n ih =>
  intro k acc hk ha;rw [prog_Names.l1, weirref09_Names.l1, if_pos (dT (by omega)), if_pos (by omega), if_pos (by simp; omega), if_pos (dT (by omega)), if_pos (by omega), if_pos (by simp; omega), w1 (by omega)];obtain ⟨e1, e2⟩ := ih (k + 1) (acc ++ [⟨-1, gt p.Locs (k : Int)⟩]) (by omega) (by simp; omega);rw [e1, e2, drop_get (show k < p.Locs.length by omega)];simp [lfs]
theorem names_pd (p : api_Prog) (h1 : p.Regs.length ≤ 4) (h2 : ∀ t, t < p.Regs.length → (gt p.Regs (t : Int)).length ≤ 8) (h3 : p.Locs.length ≤ 100000) : prog_Names.f p = some (nm p) ∧ weirref09_Names.f p = some (nm p) := by
 obtain ⟨a1, a2⟩ := names_l0 p h2 h1 p.Regs.length 0 [] (by omega) (by simp);have hn := nmR_len p.Regs h2 p.Regs.length 0 (by omega);obtain ⟨b1, b2⟩ := names_l1 p h3 p.Locs.length 0 (nmR p.Regs p.Regs.length 0) (by omega) (by omega);have a1' : prog_Names.l0 p [] 0 = _ := a1;have a2' : weirref09_Names.l0 p [] 0 = _ := a2;have b1' : prog_Names.l1 p (nmR p.Regs p.Regs.length 0) 0 = _ := b1;have b2' : weirref09_Names.l1 p (nmR p.Regs p.Regs.length 0) 0 = _ := b2;unfold prog_Names.f weirref09_Names.f slices_Clip___api_Ref_api_Ref.f;rw [a1', a2', List.nil_append];simp only [Option.bind_eq_bind, Option.bind_some];rw [b1', b2', List.drop_zero];exact ⟨rfl, rfl⟩
def ixO (l : List api_Ref) (r : api_Ref) : Option Int := sea (fun k => if decide (gt l (k : Int) = r) = true then some (k : Int) else none) l.length 0
def ix (l : List api_Ref) (r : api_Ref) : Int := (ixO l r).getD 0
theorem ixO_b {l : List api_Ref} {r : api_Ref} {i : Int} (h : ixO l r = some i) : 0 ≤ i ∧ i < l.length ∧ gt l i = r ∧ ∀ j : Nat, (j : Int) < i → gt l (j : Int) ≠ r := by
 obtain ⟨j, -, h2, h3, h4⟩ := sea_mem h
 split at h3
 ·rename_i hd
  cases h3;refine ⟨by omega, by omega, of_decide_eq_true hd, fun j' hj' e => ?_⟩;have := h4 j' (by omega) (by omega);rw [if_pos (dT e)] at this; cases this
 ·cases h3
theorem ix_b (l : List api_Ref) (r : api_Ref) : 0 ≤ ix l r ∧ (ix l r < l.length ∨ ix l r = 0) := by
 unfold ix
 cases h : ixO l r with
 | none => simp
 | some i => have := ixO_b h; simp only [Option.getD_some]; omega
theorem slIndex (l : List api_Ref) (r : api_Ref) (hl : l.length ≤ big) : slices_Index___api_Ref_api_Ref.f l r = some ((ixO l r).getD (-1)) := by
 unfold slices_Index___api_Ref_api_Ref.f;rw [loopS0 (F := slices_Index___api_Ref_api_Ref.l0 l r) (g := fun k => if decide (gt l (k : Int) = r) = true then some (k : Int) else none) (N := l.length) hl (fun k hk => by
  rw [slices_Index___api_Ref_api_Ref.l0, if_pos (dT (by omega)), if_pos (by omega)]
  by_cases h : gt l (k : Int) = r
  ·rw [if_pos (dT h.symm), if_pos (dT h)]
  ·rw [if_neg (dF (fun e => h e.symm)), if_neg (dF h)]) (by rw [slices_Index___api_Ref_api_Ref.l0, if_neg (dF (by omega))])]
 show _ = some ((sea _ _ _).getD (-1))
 cases sea (fun k => if decide (gt l (k : Int) = r) = true then some (k : Int) else none) l.length 0 <;> rfl
theorem index_pd (p : api_Prog) (r : api_Ref) (h : Nok p) : prog_Index.f p r = some (ix (nm p) r, (ixO (nm p) r).isSome) ∧ weirref09_Index.f p r = some (ix (nm p) r, (ixO (nm p) r).isSome) := by
 have hl := nm_len h;have h4 : p.Regs.length ≤ 4 := h.rg;obtain ⟨n1, n2⟩ := names_pd p h4 h.nms (by have := h.lc; omega);constructor
 ·unfold prog_Index.f;rw [n1];simp only [Option.bind_eq_bind, Option.bind_some];rw [slIndex _ _ (by unfold big; omega)];simp only [Option.bind_some];unfold ix
  cases hi : ixO (nm p) r with
  | none => rfl
  | some i =>
   have := ixO_b hi;simp only [Option.getD_some, Option.isSome_some];rw [if_pos (dT this.1)]
   congr 2
   unfold bmax; split <;> omega
 ·unfold weirref09_Index.f;rw [n2];simp only [Option.bind_eq_bind, Option.bind_some];rw [loopS0 (F := weirref09_Index.l0 r (nm p)) (g := fun k => if decide (gt (nm p) (k : Int) = r) = true then some ((k : Int), true) else none) (N := (nm p).length) (by omega) (fun k hk => by
   rw [weirref09_Index.l0, if_pos (dT (by omega)), if_pos (by omega)]
   by_cases h : gt (nm p) (k : Int) = r
   ·rw [if_pos (dT h), if_pos (dT h)]
   ·rw [if_neg (dF h), if_neg (dF h)]) (by rw [weirref09_Index.l0, if_neg (dF (by omega))])]
  have hs : ∀ n k, sea (fun k => if decide (gt (nm p) (k : Int) = r) = true then some ((k : Int), true) else none) n k = (sea (fun k => if decide (gt (nm p) (k : Int) = r) = true then some (k : Int) else none) n k).map (fun i => (i, true)) := by
   intro n
   induction n with
   | zero => intro k; rfl
   | succ n ih =>
    intro k;unfold sea
    by_cases h : decide (gt (nm p) (k : Int) = r) = true
    ·simp only [h, if_true]; rfl
    ·simp only [h, if_false]; exact ih (k + 1)
  rw [hs];unfold ix ixO
  cases sea (fun k => if decide (gt (nm p) (k : Int) = r) = true then some (k : Int) else none) (nm p).length 0 <;> rfl
theorem contains_p (l : List api_Final) (n : Int) (hl : l.length ≤ big) : slices_ContainsFunc___api_Final_api_Final.f l n = some ((List.range l.length).any fun k => ((gt l (k : Int)).N != n)) := by
 unfold slices_ContainsFunc___api_Final_api_Final.f slices_IndexFunc___api_Final_api_Final.f;rw [loopS0 (F := slices_IndexFunc___api_Final_api_Final.l0 l n) (g := fun k => if ((gt l (k : Int)).N != n) = true then some (k : Int) else none) (N := l.length) hl (fun k hk => by
  rw [slices_IndexFunc___api_Final_api_Final.l0, if_pos (dT (by omega)), if_pos (by omega)];unfold verdict_fits_1.f
  cases ((gt l (k : Int)).N != n) <;> rfl) (by rw [slices_IndexFunc___api_Final_api_Final.l0, if_neg (dF (by omega))])]
 cases h : sea (fun k => if ((gt l (k : Int)).N != n) = true then some (k : Int) else none) l.length 0 with
 | none =>
  have := sea_none.1 h
  have hn : ((List.range l.length).any fun k => ((gt l (k : Int)).N != n)) = false := by
   refine List.any_eq_false.2 fun k hk => ?_;have h2 := this k (by omega) (by have := List.mem_range.1 hk; omega);intro hb; rw [if_pos hb] at h2; cases h2
  rw [hn]; rfl
 | some e =>
  obtain ⟨j, -, h2, h3, -⟩ := sea_mem h
  split at h3
  ·rename_i hb
   cases h3;have hy : ((List.range l.length).any fun k => ((gt l (k : Int)).N != n)) = true := List.any_eq_true.2 ⟨j, List.mem_range.2 (by omega), hb⟩;rw [hy];simp only [outs, Option.bind_eq_bind, Option.bind_some];rw [if_pos (dT (by omega))]
  ·cases h3
theorem vfits_p (l : List api_Final) (n : Nat) (hl : l.length ≤ big) : verdict_fits.f l (n : Int) = some (rises l && !((List.range l.length).any fun k => ((gt l (k : Int)).N != (n : Int)))) := by
 unfold verdict_fits.f;rw [rises_s l (by unfold big at hl; omega)];simp only [Option.bind_eq_bind, Option.bind_some];rw [contains_p l _ hl]
 cases rises l <;> cases ((List.range l.length).any fun k => ((gt l (k : Int)).N != (n : Int))) <;> rfl
theorem vfits_d (p : api_Prog) (l : List api_Final) (hl : l.length ≤ big) (hn : weirref09_Names.f p = some (nm p)) : weirref23_fits.f p l = some (rises l && !((List.range l.length).any fun k => ((gt l (k : Int)).N != ((nm p).length : Int)))) := by
 unfold weirref23_fits.f;rw [hn];simp only [Option.bind_eq_bind, Option.bind_some];rw [loopS0 (F := weirref23_fits.l0 l (nm p)) (g := fun k => if ((gt l (k : Int)).N != ((nm p).length : Int)) = true then some false else none) (N := l.length) hl (fun k hk => by
  rw [weirref23_fits.l0, if_pos (dT (by omega)), if_pos (by omega)]
  cases ((gt l (k : Int)).N != ((nm p).length : Int)) <;> rfl) (by rw [weirref23_fits.l0, if_neg (dF (by omega))]), seaB, rises_r l (by unfold big at hl; omega)]
 cases rises l <;> cases ((List.range l.length).any fun k => ((gt l (k : Int)).N != ((nm p).length : Int))) <;> rfl
theorem value_pd (p : api_Prog) (f : api_Final) (r : api_Ref) (hS : Sized p) : ∃ v e, verdict_Value.f p f r = some (v, e) ∧ weirref23_Value.f p f r = some (v, e) := by
 obtain ⟨e, v1, v2, v3⟩ := valid_pd p hS;unfold verdict_Value.f weirref23_Value.f;rw [v1, v2];simp only [Option.bind_eq_bind, Option.bind_some]
 by_cases he : (e != 0) = true
 ·rw [if_pos he, if_pos he]; exact ⟨0, e, rfl, rfl⟩
 rw [if_neg he, if_neg he]
 have e0 : e = 0 := by simpa using he
 have hv := (v3 e0).nok;have hl := nm_len hv;have h4 : p.Regs.length ≤ 4 := hv.rg;obtain ⟨n1, n2⟩ := names_pd p h4 hv.nms (by have := hv.lc; omega);obtain ⟨i1, i2⟩ := index_pd p r hv;rw [n1];simp only [Option.bind_some];rw [vfits_p _ _ (by simp [big]), vfits_d p _ (by simp [big]) n2, i1, i2];simp only [Option.bind_some];cases (rises [f] && !((List.range [f].length).any fun k => ((gt [f] (k : Int)).N != ((nm p).length : Int))))
 ·exact ⟨0, 100, rfl, rfl⟩
 ·cases hi : (ixO (nm p) r).isSome
  ·exact ⟨0, 91, rfl, rfl⟩
  ·have hb := ix_b (nm p) r;simp only [if_true, Bool.not_true, Bool.false_eq_true, if_false];rw [if_pos (by omega)];exact ⟨_, _, rfl, rfl⟩
end Go.Proofs.YtcjaknnihjcajaaGreat.K
