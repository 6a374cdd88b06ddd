/- Maps whose keys are structs: what asks for such keys and what finds them. -/
import Derived.Test.YtcjaknnihjcajaaGreatNM
import Derived.WideKeyRuns
set_option linter.unusedVariables false
set_option linter.unusedSimpArgs false
namespace Go.Proofs.YtcjaknnihjcajaaGreat.K
open Go Go.RowKit Go.MapKept
def udk (P : Program) (t : TypeId) : TypeDesc := match P.underlying t with | some d => d | none => .bool
section
variable {P : Program} {w : World} {em : Bool} {d : Nat}
theorem chk_int {t : TypeId} {k k' : IntKind} {x : Int} (h : P.underlying t = some (.int k')) : (Instr.checkKey em (d + 1) t (.int k x)).run P w = .ok () w := by
 unfold Instr.checkKey
 simp only [Sem.run_bind, run_underlying h, Result.andThen, Sem.run_pure]
theorem chk_str {t : TypeId} {x : ByteArray} (h : P.underlying t = some .string) : (Instr.checkKey em (d + 1) t (.string x)).run P w = .ok () w := by
 unfold Instr.checkKey
 simp only [Sem.run_bind, run_underlying h, Result.andThen, Sem.run_pure]
theorem chk_st {t : TypeId} {xs : Array Value} {fs : List Field} (hu : P.underlying t = some (.struct (P.fieldsOf t))) (hf : (P.fieldsOf t).toList = fs)
    (h : ∀ f ∈ fs, f.name ≠ "_" → ∃ a, (part f.type xs f.offset).run P w = .ok a w ∧ (Instr.checkKey em d f.type a).run P w = .ok () w) : (Instr.checkKey em (d + 1) t (.agg xs)).run P w = .ok () w := by
  rw [Instr.checkKey]
  simp only [Sem.run_bind, run_underlying hu, Result.andThen_ok]
  rw [← Array.forIn_toList, hf]
  clear hf
  induction fs with
  | nil => simp
  | cons f L ih =>
    by_cases hn : f.name = "_"
    · simp only [List.forIn_cons, Sem.run_bind, hn, ne_eq, not_true_eq_false, if_false, Result.andThen_ok, Sem.run_pure]
      exact ih (fun y hy => h y (by simp [hy]))
    · obtain ⟨a, p1, p2⟩ := h f (by simp) hn
      simp only [List.forIn_cons, Sem.run_bind, hn, ne_eq, not_false_eq_true, if_true, Result.andThen_ok, p1, p2, Sem.run_pure]
      exact ih (fun y hy => h y (by simp [hy]))
theorem chkF_nil {xs : Array Value} {d : Nat} : ∀ f ∈ ([] : List Field), f.name ≠ "_" → ∃ a, (part f.type xs f.offset).run P w = .ok a w ∧ (Instr.checkKey em d f.type a).run P w = .ok () w := fun f hf => by simp at hf
theorem chkF_cons {xs : Array Value} {d : Nat} {f : Field} {fs : List Field} {a : Value} (h1 : (part f.type xs f.offset).run P w = .ok a w) (h2 : (Instr.checkKey em d f.type a).run P w = .ok () w)
  (h : ∀ f ∈ fs, f.name ≠ "_" → ∃ a, (part f.type xs f.offset).run P w = .ok a w ∧ (Instr.checkKey em d f.type a).run P w = .ok () w) : ∀ g ∈ f :: fs, g.name ≠ "_" → ∃ a, (part g.type xs g.offset).run P w = .ok a w ∧ (Instr.checkKey em d g.type a).run P w = .ok () w := by
 intro g hg hn
 rcases List.mem_cons.1 hg with rfl | hg
 ·exact ⟨a, h1, h2⟩
 ·exact h g hg hn
end
def cell : Value → Bool
 | .bool _ | .int _ _ | .string _ => true
 | _ => false
theorem ba_beq_refl (x : ByteArray) : (x == x) = true := (ba_beq x x).2 rfl
theorem sameBits_cell : ∀ {v : Value}, cell v = true → ∀ n, Instr.sameBits n v v = true := by
 intro v hv n
 cases v <;> simp [cell] at hv <;> unfold Instr.sameBits <;> simp [ba_beq_refl]
theorem sameBits_agg {n : Nat} {cs : List Value} (h : cs.all cell = true) : Instr.sameBits (n + 1) (.agg cs.toArray) (.agg cs.toArray) = true := by
  unfold Instr.sameBits
  simp only [beq_self_eq_true, Bool.true_and]
  rw [List.all_eq_true] at h ⊢
  intro p hp
  have : p.1 = p.2 ∧ p.1 ∈ cs := by
    have hz : ∀ (l : List Value) (p : Value × Value), p ∈ l.zip l → p.1 = p.2 ∧ p.1 ∈ l := by
      intro l
      induction l with
      | nil => intro p hp; simp at hp
      | cons a l ih =>
        intro p hp
        simp only [List.zip_cons_cons, List.mem_cons] at hp
        rcases hp with rfl | hp
        · exact ⟨rfl, List.mem_cons_self ..⟩
        · exact ⟨(ih p hp).1, List.mem_cons_of_mem _ (ih p hp).2⟩
    exact hz cs p (by simpa using hp)
  rw [← this.1]
  exact sameBits_cell (h _ this.2) n
theorem cells_encV {α : Type} {enc : α → List Value} {n : Nat} (he : ∀ a, (enc a).all cell = true) (v : Vector α n) : (encV enc v).all cell = true := by
 rw [List.all_eq_true]
 intro x hx
 simp only [encV] at hx
 obtain ⟨a, -, ha⟩ := List.mem_flatMap.1 hx
 exact List.all_eq_true.1 (he a) x ha
section
variable {κ : Type} [DecidableEq κ]
theorem KeyEnc.wide {P : Program} {kt : TypeId} {dk : TypeDesc} {enc : κ → List Value} (hwide : (match P.underlying kt with | some (.array _ _) | some (.struct _) => true | _ => false) = true)
    (hc : ∀ (w : World) (a : κ) (em : Bool), (Instr.checkKey em 10000 kt (.agg (enc a).toArray)).run P w = .ok () w)
    (he : ∀ (w : World) (a b : κ), (Op.equalIn 10000 kt (.agg (enc a).toArray) (.agg (enc b).toArray)).run P w = .ok (decide (a = b)) w)
    (hs : ∀ a, (enc a).all cell = true) : KeyEnc P kt dk (fun v => .agg (enc v).toArray) where
  check _ w a em := hc w a em
  find _ w k ks l h := by
    rw [run_findKey_eq w hwide]
    have key : ∀ (ks : List κ) (l : List MapEntry) (i : Nat), l.map (·.key) = ks.map (fun v => Value.agg (enc v).toArray) →
        (Instr.findAsking kt (.agg (enc k).toArray) l i).run P w = .ok ((kat ks k).bind fun j => l[j]?.map fun e => (i + j, e.val)) w := by
      intro ks
      induction ks with
      | nil =>
        intro l i h
        have : l = [] := by cases l with | nil => rfl | cons x r => simp at h
        subst this; simp [Instr.findAsking, kat]
      | cons p r ih =>
        intro l i h
        cases l with
        | nil => simp at h
        | cons e l =>
          simp only [List.map_cons, List.cons.injEq] at h
          obtain ⟨h1, h3⟩ := h
          have hq := he w k p
          by_cases hp : p = k
          · subst hp
            simp only [decide_true] at hq
            simp only [kat, if_pos]
            simp [Instr.findAsking, Op.equal, Op.maxDepth, h1, hq]
          · rw [decide_eq_false (fun e => hp e.symm)] at hq
            simp only [kat, if_neg hp]
            simp only [Instr.findAsking, Op.equal, Op.maxDepth, h1, Sem.run_bind, hq, Result.andThen_ok, Bool.false_eq_true, if_false, ih l (i + 1) h3]
            cases hm : kat r k with
            | none => rfl
            | some j =>
              simp only [Option.bind_some, Option.map_some, List.getElem?_cons_succ]
              cases l[j]? with
              | none => rfl
              | some v => simp only [Option.map_some]; congr 3; omega
    have := key ks l 0 h
    simp only [Nat.zero_add] at this
    exact this
  stay w a := by
    unfold Instr.keyThatStays
    rw [sameBits_agg (hs a)]
    simp
end
end Go.Proofs.YtcjaknnihjcajaaGreat.K
