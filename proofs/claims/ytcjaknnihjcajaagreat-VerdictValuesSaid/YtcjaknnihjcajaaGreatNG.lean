/- A region that draws, with several effects amidst the others, each of which waits for the one before. -/
import Derived.Test.YtcjaknnihjcajaaGreatN9
set_option linter.unusedVariables false
set_option linter.unusedSimpArgs false
namespace Go.Proofs.YtcjaknnihjcajaaGreat.K
open Go Go.RowKit
def avL (eff lv : List Nat) (i : Nat) : Nat := if eff.contains i then lv.getD i 0 + 1 else lv.getD i 0
def levB (ops : Array Oper) (eff lv : List Nat) : Bool :=
 (List.range ops.size).all fun i => match ops[i]? with
  | none => true
  | some o => lv.getD i 0 == 0 || o.after.any fun e => Region.binds .any e && avL eff lv e.on == lv.getD i 0
def effB (ops : Array Oper) (eff lv : List Nat) : Bool := (List.range eff.length).all fun k => lv.getD (eff.getD k 0) 0 == k && decide (eff.getD k 0 < ops.size)
section
variable {P : Program} {ops : Array Oper} {l0 : List Value} {s : Nat} {S : Type} {rank : S → Nat} {C : S → World → Prop} {v : S → Nat → Value} {eff lv ub sk : List Nat} {gs : List Bool} {Q : Exit → Act → World → Prop}
structure GInv (ops : Array Oper) (rank : S → Nat) (v : S → Nat → Value) (eff : List Nat) (l0 : List Value) (st : S) (listed : Array Bool) (l : List Value) : Prop where
 size : listed.size = ops.size
 len : l.length = l0.length
 ok : ∀ i, i < ops.size → listed.getD i true = true → slotOk ops (v st) l i
 old : ∀ d, (∀ (j : Nat) (o' : Oper), ops[j]? = some o' → o'.dst ≠ some d) → l.getD d undef = l0.getD d undef
 un : ∀ i o d, ops[i]? = some o → listed.getD i true = false → o.dst = some d → l.getD d undef = l0.getD d undef
 cl : ∀ j o', ops[j]? = some o' → listed.getD j true = true → ∀ e ∈ o'.after, Region.binds .any e = true → listed.getD e.on true = true
 st : ∀ k, k < eff.length → listed.getD (eff.getD k 0) true = decide (k < rank st)
theorem effB_spec (h : effB ops eff lv = true) {k : Nat} (hk : k < eff.length) : lv.getD (eff.getD k 0) 0 = k ∧ eff.getD k 0 < ops.size := by
 have h1 := List.all_eq_true.1 h k (List.mem_range.2 hk)
 simp only [Bool.and_eq_true, beq_iff_eq, decide_eq_true_eq] at h1
 exact h1
theorem mem_eff {i : Nat} (h : eff.contains i = true) : ∃ k, k < eff.length ∧ eff.getD k 0 = i := by
 have : i ∈ eff := by simpa using h
 obtain ⟨k, hk, rfl⟩ := List.mem_iff_getElem.1 this
 exact ⟨k, hk, by rw [List.getD_eq_getElem?_getD, List.getElem?_eq_getElem hk]; rfl⟩
theorem eff_mem {k : Nat} (hk : k < eff.length) : eff.contains (eff.getD k 0) = true := by
 rw [List.getD_eq_getElem?_getD, List.getElem?_eq_getElem hk]
 simp
theorem levB_spec (h : levB ops eff lv = true) {i : Nat} {o : Oper} (ho : ops[i]? = some o) : lv.getD i 0 = 0 ∨ ∃ e ∈ o.after, Region.binds .any e = true ∧ avL eff lv e.on = lv.getD i 0 := by
 have h1 := List.all_eq_true.1 h i (List.mem_range.2 (Array.getElem?_eq_some_iff.1 ho).1)
 simp only [ho, Bool.or_eq_true, beq_iff_eq, Array.any_eq_true', Bool.and_eq_true] at h1
 exact h1
theorem GInv.lev {st : S} {listed : Array Bool} {l : List Value} (hE : GInv ops rank v eff l0 st listed l) (hL : levB ops eff lv = true) (hF : effB ops eff lv = true) (hB : okE ops l0.length s = true) : ∀ i, i < ops.size → listed.getD i true = true → avL eff lv i ≤ rank st := by
  intro i
  induction i using Nat.strongRecOn with
  | _ i ih =>
    intro hi hl
    have ho : ops[i]? = some ops[i] := Array.getElem?_eq_getElem hi
    have h1 : lv.getD i 0 ≤ rank st := by
      rcases levB_spec hL ho with h | ⟨e, he, hb, hd⟩
      · omega
      · have hlt := (okE_spec hB ho).a e he hb
        have := ih e.on hlt (by omega) (hE.cl i _ ho hl e he hb)
        omega
    unfold avL
    split
    · rename_i hc
      obtain ⟨k, hk, rfl⟩ := mem_eff hc
      have h2 := hE.st k hk
      rw [hl] at h2
      have h3 : k < rank st := by simpa using h2.symm
      rw [(effB_spec hF hk).1]; omega
    · exact h1
end
/-! ### What effects do amidst such a region: the rest is told by Post -/
theorem Does.mono {P : Program} {sem : Sem Next} {p : Prop} {w : World} {Post Post' : Value → World → Prop} (h : Does P sem p w Post) (hm : ∀ v w', Post v w' → Post' v w') : Does P sem p w Post' := by
 rcases h with ⟨v, w', hr, hp⟩ | ⟨hn, w', hr, hp⟩ | ⟨g, args, hr, hc⟩
 ·exact .inl ⟨v, w', hr, hm _ _ hp⟩
 ·exact .inr (.inl ⟨hn, w', hr, hm _ _ hp⟩)
 ·exact .inr (.inr ⟨g, args, hr, hc.mono (fun e w' ⟨v, he, hp⟩ => ⟨v, he, hm _ _ hp⟩)⟩)
section
variable {P : Program} {l : List Value} {w w0 : World} {Z : Zm} {os : List XObj} {or : Oper} {p : Prop} {Post : Value → World → Prop}
theorem does_lit {t e : TypeId} {sz n : Nat} {parts : Array (Nat × Operand)} {vs : List (Nat × Value)} {z : Value} {cs cs' : List Value} (hS : St w0 Z os w) (ho : or.op = .buildSlice t n parts) (hp : (parts.map fun p => (p.1, evL l p.2)) = vs.toArray) (hu : P.underlying t = some (.slice e)) (hs : pureSem P (sizeOf e) = some sz) (hsz : 0 < sz ∧ n * sz ≤ 2 ^ 24) (hn : 0 < n)
  (hz : pureSem P (zeroValue e) = some z) (hvs : vs.length = n) (hc : Parts sz 0 vs cs) (he : cs = cs')
  (h : ∀ b w', St w0 Z (xrow (some ⟨b, 0, none⟩) n e sz cs' :: os) w' → Post (.slice (some ⟨b, 0, none⟩) n n) w') : Does P (execOp (evL l) or) p w Post := by
 subst he
 have hpos : 0 < n * sz := Nat.mul_pos hn hsz.1
 have hm : n ≤ n * sz := Nat.le_mul_of_pos_right _ hsz.1
 have hlen : cs.length = n * sz := by rw [hc.len, hvs]
 refine .inl ⟨_, _, x_buildSlice (zs := #[z]) (vs := vs) (cs := cs.toArray) hu hs hsz.2 (by omega) (by simpa using hz) hp ?_ ho, h _ _ ((hS.newblk (new_alloc w _)).rowOfBlk hlen hn (by omega))⟩
 have := fill_parts hc [] ((Array.range (n * sz)).map (fun j => (#[z] : Array Value)[0]!.cells[j % (#[z] : Array Value)[0]!.cells.size]!)).toList (by simp) (by simp [hvs])
 rw [List.nil_append, List.nil_append, Array.toArray_toList] at this
 exact this
theorem does_storeG {t : TypeId} {x y : Operand} {b o : Nat} {e : TypeId} {cs cs' : List Value} {v : Value} {vs : List Value} (hS : St w0 Z (xblk b e cs :: os) w) (ho : or.op = .store t x y) (hd : p) (hx : evL l x = .pointer (some ⟨b, o, none⟩)) (hy : evL l y = v)
  (hv : v.cells = vs.toArray) (hs : pureSem P (sizeOf t) = some vs.length) (h1 : vs.all Value.oneCell' = true) (hl : o + vs.length ≤ cs.length) (he : over cs o vs = cs') (h : ∀ w', St w0 Z (xblk b e cs' :: os) w' → Post undef w') : Does P (execOp (evL l) or) p w Post := by
 obtain ⟨w', hst, hb', hf⟩ := stores (P := P) (t := t) (o := o) (show Blk w b e cs from hS.hd) hv hs h1 hl
 exact .inr (.inl ⟨hd, w', x_store hx hy hst ho, h w' (hS.setblk hf (he ▸ hb'))⟩)
end
end Go.Proofs.YtcjaknnihjcajaaGreat.K
