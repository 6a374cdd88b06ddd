/- Small words for the printed texts. -/
import Derived.Test.YtfiamlhhhkiiaaaN7
set_option linter.unusedVariables false
set_option linter.unusedSimpArgs false
namespace Go.Proofs.Ytfiamlhhhkiiaaa.K
open Go Go.RowKit
theorem Runs.refill {P : Program} {f : Fx} {todo : List Item} {l : List Value} {w : World} {R : Ending → World → Prop} {m m' : List (Option Value)} (hm : m = m') (h : Runs P f todo (K.fill m' l) w R) : Runs P f todo (K.fill m l) w R := hm ▸ h
theorem slv {v : Value} {A : Option Addr} {a : Addr} {n c : Nat} (h : v = .slice A n c) (hA : A = some a) : v = .slice (some a) n c := hA ▸ h
theorem St.less {w0 w : World} {Z Z' : Zm} {xs : List XObj} (h : St w0 Z' xs w) (hz : Zm.Le Z Z') : St w0 Z xs w :=
  ⟨h.fr, fun m => h.dr (hz.mono.2 m), fun b o v k => h.zc b o v (hz.cell b o v k), fun b x k => h.zb b x (hz.blk b x k), h.ob, h.new, h.ap, fun X hX b o v k => h.zx X hX b o v (hz.cell b o v k), fun X hX b x k => h.zy X hX b x (hz.blk b x k)⟩
theorem setl_len {α : Type} (xs : List α) (i : Int) (y : α) : (setl xs i y).length = xs.length := by simp [setl]
def copyl {α : Type} (xs ys : List α) : List α := ys.take xs.length ++ xs.drop ys.length
theorem copyl_len {α : Type} (xs ys : List α) : (copyl xs ys).length = xs.length := by
  simp only [copyl, List.length_append, List.length_take, List.length_drop]; omega
theorem lenK {P : Program} {t : TypeId} {cs : List Value} {n : Nat} (hl : cs.length = n) (h : pureSem P (sizeOf t) = some n) : pureSem P (sizeOf t) = some cs.length := by rw [hl]; exact h

/-! ### A region that draws with one effect amidst the others, told by two classes of worlds -/
theorem does_run {P : Program} {sem : Sem Next} {w : World} {v v' : Value} {p : Prop} {Q : World → Prop} (h : sem.run P w = .ok (.value v) w) (hv : v = v') (hC : Q w) : Does P sem p w fun u w' => u = v' ∧ Q w' := .inl ⟨v, w, h, hv, hC⟩
theorem does_pure {P : Program} {sem : Sem Next} {w : World} {v v' : Value} {p : Prop} {Q : World → Prop} (h : pureSem P sem = some (.value v)) (hv : v = v') (hC : Q w) : Does P sem p w fun u w' => u = v' ∧ Q w' := does_run (pureSem_run h) hv hC
theorem does_store {P : Program} {w0 w : World} {Z : Zm} {xs : List XObj} {l : List Value} {or : Oper} {X : Type} {ux : X} {t : TypeId} {x y : Operand} {b o : Nat} {e : TypeId} {cs cs' : List Value} {v : Value} {vs : List Value} {Q : X → Value → Prop} {C1 : X → World → Prop} (hS : St w0 Z (xblk b e cs :: xs) w) (ho : or.op = .store t x y) (hd : or.dst = none) (hx : evL l x = .pointer (some ⟨b, o, none⟩)) (hy : evL l y = v)
    (hv : v.cells = vs.toArray) (hs : pureSem P (sizeOf t) = some vs.length) (h1 : vs.all Value.oneCell' = true) (hl : o + vs.length ≤ cs.length) (he : over cs o vs = cs') (hk : ∀ w', St w0 Z (xblk b e cs' :: xs) w' → C1 ux w') :
    Does P (execOp (evL l) or) (or.dst = none) w fun v w' => ∃ x, (or.dst = none ∨ Q x v) ∧ C1 x w' := by
  obtain ⟨w', hst, hb', hf⟩ := stores (P := P) (t := t) (o := o) (show Blk w b e cs from hS.hd) hv hs h1 hl
  exact .inr (.inl ⟨hd, w', x_store hx hy hst ho, ux, .inl hd, hk w' (hS.setblk hf (he ▸ hb'))⟩)
theorem does_call {P : Program} {w : World} {sem : Sem Next} {g : FuncId} {args : Array Value} {p : Prop} {S : Ending → World → Prop} {Post : Value → World → Prop} (h : pureSem P sem = some (.enter g args)) (hc : Calls P g args w S) (hS : ∀ e w', S e w' → ∃ v, e = .returned v ∧ Post v w') : Does P sem p w Post :=
  .inr (.inr ⟨g, args, pureSem_run h, hc.mono hS⟩)
theorem r_drawnF {P : Program} {f : Fx} {k : List Item} {w : World} {R : Ending → World → Prop} {c : Code} {X : Type} {C0 : World → Prop} {C1 : X → World → Prop} {vs : List Value} {vx : X → List Value} {l0 : List Value} {id : Nat} (s n : Nat) (dl sk : List Nat) (hc : c = .region id (opsOf c) true) (hm : P.follows .mixedOrders = true) (hn : (opsOf c).size = n) (hsz : s < n) (hB : okE (opsOf c) l0.length s = true) (hD : depB (opsOf c) s dl = true) (hR : readsE (opsOf c) s dl sk = true) (hds : dl.contains s = true)
    (hv : ∀ x i, i < n → dl.contains i = false → (vx x).getD i undef = vs.getD i undef) (hvl : ∀ x, (vx x).length = n ∧ vs.length = n) (hC : C0 w.drew)
    (h1 : ∀ i, i < n → dl.contains i = false → ∀ w, C0 w → Does P (execOp (evL (finX (opsOf c) (fun i => vs.getD i undef) l0 (sk ++ dl) n)) (opO c i)) False w fun v w' => v = vs.getD i undef ∧ C0 w')
    (h1' : ∀ i, i < n → dl.contains i = false → ∀ x w, C1 x w → Does P (execOp (evL (finX (opsOf c) (fun i => vs.getD i undef) l0 (sk ++ dl) n)) (opO c i)) False w fun v w' => v = vs.getD i undef ∧ C1 x w')
    (h2 : ∀ w, C0 w → Does P (execOp (evL (finX (opsOf c) (fun i => vs.getD i undef) l0 (sk ++ dl) n)) (opO c s)) ((opO c s).dst = none) w fun v w' => ∃ x, ((opO c s).dst = none ∨ v = (vx x).getD s undef) ∧ C1 x w')
    (h3 : ∀ i, i < n → dl.contains i = true → i ≠ s → ∀ x w, C1 x w → Does P (execOp (evL (finX (opsOf c) (fun i => (vx x).getD i undef) l0 sk n)) (opO c i)) False w fun v w' => v = (vx x).getD i undef ∧ C1 x w')
    (hk : ∀ x w', C1 x w' → Runs P f k (finX (opsOf c) (fun i => (vx x).getD i undef) l0 [] n) w' R) (hro : (bs f).roundOf = none ∨ noDef (opsOf c) = true := by first | exact .inl rfl | exact .inr (by kernel_rfl)) : Runs P f (.code c :: k) l0 w R := by
  subst hn
  refine r_drawnE (C := fun st => match st with | none => C0 | some x => C1 x) (vs := vs) (vx := vx) s dl sk hc hm hsz hB hD hR hds (fun x i hi => ?_) (fun _ => rfl) rfl (fun _ => rfl) hC ?_ h2 h3 hk hro
  · by_cases h : i < (opsOf c).size
    · exact hv x i h hi
    · rw [List.getD_eq_getElem?_getD, List.getD_eq_getElem?_getD, List.getElem?_eq_none (by rw [(hvl x).1]; omega), List.getElem?_eq_none (by rw [(hvl x).2]; omega)]
  · intro i hi hd st w hw
    cases st with
    | none => exact h1 i hi hd w hw
    | some x => exact h1' i hi hd x w hw
end Go.Proofs.Ytfiamlhhhkiiaaa.K
