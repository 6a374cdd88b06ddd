/- Small words for the printed texts. -/
import Derived.Test.YtcjaknnihjcajaaGreatN7
set_option linter.unusedVariables false
set_option linter.unusedSimpArgs false
namespace Go.Proofs.YtcjaknnihjcajaaGreat.K
open Go Go.RowKit
theorem Runs.refill {P : Program} {f : Fx} {todo : List Item} {l : List Value} {w : World} {R : Ending → World → Prop} {m m' : List (Option Value)} (hm : m = m') (h : Runs P f todo (K.fill m' l) w R) : Runs P f todo (K.fill m l) w R := hm ▸ h
theorem slv {v : Value} {A : Option Addr} {a : Addr} {n c : Nat} (h : v = .slice A n c) (hA : A = some a) : v = .slice (some a) n c := hA ▸ h
theorem St.less {w0 w : World} {Z Z' : Zm} {xs : List XObj} (h : St w0 Z' xs w) (hz : Zm.Le Z Z') : St w0 Z xs w :=
 ⟨h.fr, fun m => h.dr (hz.mono.2 m), fun b o v k => h.zc b o v (hz.cell b o v k), fun b x k => h.zb b x (hz.blk b x k), h.ob, h.new, h.ap, fun X hX b o v k => h.zx X hX b o v (hz.cell b o v k), fun X hX b x k => h.zy X hX b x (hz.blk b x k)⟩
theorem setl_len {α : Type} (xs : List α) (i : Int) (y : α) : (setl xs i y).length = xs.length := by simp [setl]
theorem lenK {P : Program} {t : TypeId} {cs : List Value} {n : Nat} (hl : cs.length = n) (h : pureSem P (sizeOf t) = some n) : pureSem P (sizeOf t) = some cs.length := by rw [hl]; exact h
/-! ### A region that draws with one effect amidst the others, told by two classes of worlds -/
theorem does_run {P : Program} {sem : Sem Next} {w : World} {v v' : Value} {p : Prop} {Q : World → Prop} (h : sem.run P w = .ok (.value v) w) (hv : v = v') (hC : Q w) : Does P sem p w fun u w' => u = v' ∧ Q w' := .inl ⟨v, w, h, hv, hC⟩
theorem does_pure {P : Program} {sem : Sem Next} {w : World} {v v' : Value} {p : Prop} {Q : World → Prop} (h : pureSem P sem = some (.value v)) (hv : v = v') (hC : Q w) : Does P sem p w fun u w' => u = v' ∧ Q w' := does_run (pureSem_run h) hv hC
theorem does_call {P : Program} {w : World} {sem : Sem Next} {g : FuncId} {args : Array Value} {p : Prop} {S : Ending → World → Prop} {Post : Value → World → Prop} (h : pureSem P sem = some (.enter g args)) (hc : Calls P g args w S) (hS : ∀ e w', S e w' → ∃ v, e = .returned v ∧ Post v w') : Does P sem p w Post :=
 .inr (.inr ⟨g, args, pureSem_run h, hc.mono hS⟩)
end Go.Proofs.YtcjaknnihjcajaaGreat.K
