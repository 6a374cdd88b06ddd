/- Maps whose values are slices that stay as they are; an entry taken out of a map. -/
import Derived.Test.YtcjaknnihjcajaaGreatNM
set_option linter.unusedVariables false
set_option linter.unusedSimpArgs false
set_option linter.unusedSectionVars false
namespace Go.Proofs.YtcjaknnihjcajaaGreat.K
open Go Go.RowKit Go.MapKept
abbrev Hh := Option Addr × Nat
section
variable {κ α : Type} [DecidableEq κ]
structure MZ (enc : α → List Value) (sz : Nat) (Z : Zm) (mh : List (κ × Hh × List α)) (m : List (κ × List α)) : Prop where
 er : mh.map (fun p => (p.1, p.2.2)) = m
 st : ∀ p ∈ mh, SlZ (flat enc) sz Z p.2.1.1 p.2.1.2 p.2.2
variable {enc : α → List Value} {sz : Nat} {Z Z' : Zm} {mh : List (κ × Hh × List α)} {m : List (κ × List α)} {A : Option Addr} {c : Nat} {t : List α} {k : κ}
theorem MZ.nil : MZ enc sz Z ([] : List (κ × Hh × List α)) [] := ⟨rfl, fun p hp => by simp at hp⟩
theorem MZ.up (h : MZ enc sz Z mh m) (hz : Zm.Le Z Z') : MZ enc sz Z' mh m := ⟨h.er, fun p hp => (h.st p hp).up hz⟩
theorem mput_er (k : κ) (x : Hh × List α) : ∀ mh : List (κ × Hh × List α), (mput mh k x).map (fun p => (p.1, p.2.2)) = mput (mh.map (fun p => (p.1, p.2.2))) k x.2
  | [] => rfl
  | p :: mh => by
    simp only [mput, List.map_cons]
    by_cases h : p.1 = k
    · rw [if_pos h, if_pos h]; rfl
    · rw [if_neg h, if_neg h, List.map_cons, mput_er k x mh]
theorem mput_mem {ν : Type} {k : κ} {x : ν} : ∀ {mh : List (κ × ν)} {p : κ × ν}, p ∈ mput mh k x → p ∈ mh ∨ p = (k, x)
  | [], p, h => by simp only [mput, List.mem_singleton] at h; exact .inr h
  | q :: mh, p, h => by
    simp only [mput] at h
    by_cases e : q.1 = k
    · rw [if_pos e] at h
      rcases List.mem_cons.1 h with h | h
      · exact .inr h
      · exact .inl (List.mem_cons_of_mem _ h)
    · rw [if_neg e] at h
      rcases List.mem_cons.1 h with h | h
      · exact .inl (h ▸ List.mem_cons_self ..)
      · rcases mput_mem h with h | h
        · exact .inl (List.mem_cons_of_mem _ h)
        · exact .inr h
theorem MZ.put (h : MZ enc sz Z mh m) (k : κ) (hs : SlZ (flat enc) sz Z A c t) : MZ enc sz Z (mput mh k ((A, c), t)) (mput m k t) :=
 ⟨by rw [mput_er, h.er], fun p hp => by
  rcases mput_mem hp with hp | rfl
  ·exact h.st p hp
  ·exact hs⟩
end
section
variable {κ α ν : Type} [DecidableEq κ] {eK : κ → Value} {eV : ν → Value} {dk : TypeDesc}
variable {P : Program} {f : Fx} {k : List Item} {l : List Value} {w w0 : World} {R : Ending → World → Prop} {c : Code} {i : Nat} {rest : List Nat} {d : Option Tmp} {ty : TypeId} {Z : Zm} {xs : List XObj}
def xmo : Option Nat → List (Value × Value) → XObj
 | some b, m => xmap b m
 | none, m => { own := fun _ => False, keeps := fun _ _ => False, holds := fun _ => m = [], stable := fun _ h => h, there := fun _ h => h.elim }
theorem St.xmoNone (hS : St w0 Z xs w) : St w0 Z (xmo none [] :: xs) w := by
 have hn : ∀ b, ¬ (xmo none []).own b := fun b h => h
 refine ⟨hS.fr, hS.dr, hS.zc, hS.zb, ?_, ?_, List.pairwise_cons.2 ⟨fun Y _ b h => absurd h (hn b), hS.ap⟩, ?_, ?_⟩
 ·intro X hX
  rcases List.mem_cons.1 hX with rfl | hX
  ·exact rfl
  ·exact hS.ob X hX
 ·intro X hX b hb
  rcases List.mem_cons.1 hX with rfl | hX
  ·exact absurd hb (hn b)
  ·exact hS.new X hX b hb
 ·intro X hX b o v hz hb
  rcases List.mem_cons.1 hX with rfl | hX
  ·exact absurd hb (hn b)
  ·exact hS.zx X hX b o v hz hb
 ·intro X hX b x hz hb
  rcases List.mem_cons.1 hX with rfl | hX
  ·exact hn b hb
  ·exact hS.zy X hX b x hz hb
theorem x_lookupO {o : Oper} {b : Option Nat} {t kt et : TypeId} {x y : Operand} {m : List (κ × ν)} {kk : κ} {z : ν} {ok : Bool} (hh : (xmo b (m.map (kv eK eV))).holds w) (hK : KeyEnc P kt dk eK) (hx : evL l x = .map b) (hy : evL l y = eK kk)
    (hu : P.underlying t = some (.map kt et)) (hd : P.underlying kt = some dk) (hz : pureSem P (zeroValue et) = some (eV z)) (ho : o.op = .lookup t x y ok) :
    (execOp (evL l) o).run P w = .ok (.value (if ok = true then .tuple #[eV ((mget m kk).getD z), .bool (mget m kk).isSome] else eV ((mget m kk).getD z))) w := by
  cases b with
  | some b => exact x_lookup hh hK hx hy hu hd hz ho
  | none =>
    have hm : m.map (kv eK eV) = [] := hh
    have hm2 : m = [] := List.map_eq_nil_iff.1 hm
    subst hm2
    have hv0 : mget ([] : List (κ × ν)) kk = none := rfl
    obtain ⟨g1, -, -⟩ := find_mat (P := P) (w := w) (eV := eV) hK hd kk ([] : List (κ × ν)) [] rfl
    have g1 := g1
    rw [show mat ([] : List (κ × ν)) kk = none from rfl, Option.bind_none] at g1
    unfold execOp
    cases ok <;> simp [ho, hx, hy, hv0, Instr.lookup, run_underlying hu, hK.check hd, g1, pureSem_run hz, Result.andThen]
theorem x_lookupO1 {o : Oper} {b : Option Nat} {t kt et : TypeId} {x y : Operand} {m : List (κ × ν)} {kk : κ} {z : ν} (hh : (xmo b (m.map (kv eK eV))).holds w) (hK : KeyEnc P kt dk eK) (hx : evL l x = .map b) (hy : evL l y = eK kk)
  (hu : P.underlying t = some (.map kt et)) (hd : P.underlying kt = some dk) (hz : pureSem P (zeroValue et) = some (eV z)) (ho : o.op = .lookup t x y false) : (execOp (evL l) o).run P w = .ok (.value (eV ((mget m kk).getD z))) w := x_lookupO hh hK hx hy hu hd hz ho
end
end Go.Proofs.YtcjaknnihjcajaaGreat.K
