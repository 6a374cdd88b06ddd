/- Ranges over functions within a loop: the blocks for the calls that rounds put aside, any number of them, as one object. No program, no Go text. -/
import Derived.Test.YtfiamlhhhkiiaaaNF
import Derived.Test.YtfiamlhhhkiiaaaNQ
set_option linter.unusedVariables false
namespace Go.Proofs.Ytfiamlhhhkiiaaa.K
open Go Go.RowKit
def xds (L : List Nat) : XObj where
  own := fun b => b ∈ L
  keeps := fun _ _ => False
  holds := fun w => L.Nodup ∧ ∀ b ∈ L, w.heap[b]? = some (.deferred (some []))
  stable := fun hb h => ⟨h.1, fun b m => (hb b m).trans (h.2 b m)⟩
  there := fun h hk => heap_lt (h.2 _ hk)
def dsL (L : List Nat) : List Deferred := L.map fun D => { target := .collected D, args := #[] }
section
variable {P : Program} {w0 w : World} {Z : Zm} {xs : List XObj} {D : Nat} {L : List Nat} {R : Ending → World → Prop}
theorem St.ds0 (hS : St w0 Z xs w) : St w0 Z (xds [] :: xs) w := by
  have hn : ∀ b, ¬ (xds []).own b := fun b h => by cases h
  refine ⟨hS.fr, hS.dr, hS.zc, hS.zb, ?_, ?_, List.pairwise_cons.2 ⟨fun Y _ b h => absurd h (hn b), hS.ap⟩, ?_, ?_⟩
  · intro X hX
    rcases List.mem_cons.1 hX with rfl | hX
    · exact ⟨List.nodup_nil, fun b m => by cases m⟩
    · exact hS.ob X hX
  · intro X hX b hb
    rcases List.mem_cons.1 hX with rfl | hX
    · exact absurd hb (hn b)
    · exact hS.new X hX b hb
  · intro X hX b o v hz hb
    rcases List.mem_cons.1 hX with rfl | hX
    · exact absurd hb (hn b)
    · exact hS.zx X hX b o v hz hb
  · intro X hX b x hz hb
    rcases List.mem_cons.1 hX with rfl | hX
    · exact hn b hb
    · exact hS.zy X hX b x hz hb
theorem St.dsPush (hS : St w0 Z (xdef D :: xds L :: xs) w) : St w0 Z (xds (D :: L) :: xs) w := by
  have h1 : w.heap[D]? = some (.deferred (some [])) := hS.hd
  have h2 := hS.drop.hd
  have hap := (List.pairwise_cons.1 hS.ap).1 _ (List.mem_cons_self ..)
  refine hS.join2 (fun _ _ f => f) (fun _ _ f => f) ⟨List.nodup_cons.2 ⟨fun m => hap D rfl m, h2.1⟩, fun b m => ?_⟩ (fun b hb => ?_)
  · rcases List.mem_cons.1 m with rfl | m
    · exact h1
    · exact h2.2 b m
  · rcases List.mem_cons.1 hb with h | h
    · exact .inl h
    · exact .inr h
theorem St.dsPop (hS : St w0 Z (xds (D :: L) :: xs) w) : St w0 Z (xdef D :: xds L :: xs) w := by
  have h := hS.hd
  refine hS.split2 (fun _ _ f => f) (h.2 D (List.mem_cons_self ..)) ⟨(List.nodup_cons.1 h.1).2, fun b m => h.2 b (List.mem_cons_of_mem _ m)⟩ (fun b hb => List.mem_cons.2 (.inl hb)) (fun b hb => List.mem_cons_of_mem _ hb) (fun b hb hb' => ?_)
  cases (show b = D from hb)
  exact (List.nodup_cons.1 h.1).1 hb'
theorem leavesC_ds {fn : Func} {tm : Array Value} : ∀ {L : List Nat} {w : World}, St w0 Z (xds L :: xs) w → (∀ w', St w0 Z xs w' → LeavesC P fn tm R [] w') → LeavesC P fn tm R (dsL L) w
  | [], w, hS, h => h w hS.drop
  | _ :: _, w, hS, h => leavesC_cons hS.dsPop fun _ hS' => leavesC_ds hS' h
end
end Go.Proofs.Ytfiamlhhhkiiaaa.K
