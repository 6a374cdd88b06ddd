/- Explore's laws: names and numbers of states; what a picture's machine answers. -/
import Derived.Test.YtfiamlhhhkiiaaaRZ
set_option linter.unusedVariables false
set_option linter.unusedSimpArgs false
namespace Go.Proofs.Ytfiamlhhhkiiaaa.K
open Go Go.RowKit
theorem nt {b : Bool} (h : b = false) : ¬ b = true := by simp [h]
theorem w1 {t : Nat} (h : t < 9223372036854775807) : IntKind.i64.wrap ((t : Int) + 1) = ((t + 1 : Nat) : Int) := by rw [wi64_id (by omega) (by omega)]; omega
/-! ### Names -/
def nm (i : Nat) : ByteArray := ⟨#[115, UInt8.ofNat (i / 256), UInt8.ofNat i]⟩
theorem nm_size (i : Nat) : (nm i).size = 3 := rfl
theorem nm_byt (i : Nat) : byt (nm i) 0 = 115 ∧ byt (nm i) 1 = ((i / 256 % 256 : Nat) : Int) ∧ byt (nm i) 2 = ((i % 256 : Nat) : Int) := by
  refine ⟨rfl, ?_, ?_⟩
  · show (((UInt8.ofNat (i / 256)).toNat : Nat) : Int) = _; simp
  · show (((UInt8.ofNat i).toNat : Nat) : Int) = _; simp
theorem nm_inj {i j : Nat} (hi : i < 65536) (hj : j < 65536) (h : nm i = nm j) : i = j := by
  obtain ⟨_, a, b⟩ := nm_byt i
  obtain ⟨_, c, d⟩ := nm_byt j
  rw [h] at a b
  have e1 : ((i / 256 % 256 : Nat) : Int) = ((j / 256 % 256 : Nat) : Int) := a.symm.trans c
  have e2 : ((i % 256 : Nat) : Int) = ((j % 256 : Nat) : Int) := b.symm.trans d
  omega
theorem u8w (i : Nat) : IntKind.u8.wrap (i : Int) = ((i % 256 : Nat) : Int) := by
  show (i : Int) % 2 ^ 8 = _
  omega
theorem name_f (i : Nat) : weirlaw14_name.f (i : Int) = some (nm i) := by
  unfold weirlaw14_name.f
  have e : shrI .i64 (i : Int) 8 = ((i / 256 : Nat) : Int) := by
    show (i : Int).fdiv (2 ^ 8) = _
    rw [Int.fdiv_eq_ediv_of_nonneg _ (by decide)]; omega
  have e2 : ((⟨#[115]⟩ : ByteArray) ++ (ofBytes ([IntKind.u8.wrap (shrI .i64 (i : Int) 8), IntKind.u8.wrap (i : Int)] : List Int))) = nm i := by
    rw [e, u8w, u8w]
    show (⟨#[115] ++ #[UInt8.ofNat (((i / 256 % 256 : Nat) : Int)).toNat, UInt8.ofNat (((i % 256 : Nat) : Int)).toNat]⟩ : ByteArray) = _
    unfold nm
    congr 1
    simp [UInt8.ofNat_mod_size]
    constructor
    · exact UInt8.toNat_inj.1 (by simp; omega)
    · exact UInt8.toNat_inj.1 (by simp; omega)
  refine (if_pos (show (1 + 2 : Nat) ≤ 9223372036854775807 by omega)).trans ?_
  rw [e2]
/-- The state of a text. -/
theorem number_f (n : weirlaw14_Net) (i : Nat) (hi : i < 65536) (hn : i < n.Next.length) : weirlaw14_Net__number.f n (nm i) = some (i : Int) := by
  unfold weirlaw14_Net__number.f
  obtain ⟨a, b, c⟩ := nm_byt i
  have e : (IntKind.i64.wrap ((shlI .i64 (IntKind.i64.wrap (byt (nm i) (1 : Int))) 8) + (IntKind.i64.wrap (byt (nm i) (2 : Int))))) = (i : Int) := by
    rw [b, c, wi64_id (n := ((i / 256 % 256 : Nat) : Int)) (by omega) (by omega), wi64_id (n := ((i % 256 : Nat) : Int)) (by omega) (by omega)]
    show IntKind.i64.wrap (IntKind.i64.wrap (((i / 256 % 256 : Nat) : Int) * 2 ^ 8) + _) = _
    rw [wi64_id (n := ((i / 256 % 256 : Nat) : Int) * 2 ^ 8) (by omega) (by omega), wi64_id (by omega) (by omega)]
    omega
  have hs : (((nm i).size : Nat) : Int) = 3 := by rw [nm_size]; rfl
  rw [e, hs, a]
  rw [if_neg (by decide), if_pos (by decide), if_neg (by decide), if_pos (by decide), if_pos (by decide), if_neg (nt (decide_eq_false (by omega)))]
/-! ### The machine -/
def row (n : weirlaw14_Net) (s : Nat) : List Int := n.Next.getD s []
def pk (i k : Nat) : api_Pick := ⟨(i : Int), ((k % 3 + 1 : Nat) : Int), (k : Int)⟩
theorem pick_f (i k : Nat) (hk : k < 65536) : weirlaw14_pick.f (i : Int) (k : Int) = some (pk i k) := by
  unfold weirlaw14_pick.f pk
  rw [show ((k : Int).tmod 3) = ((k % 3 : Nat) : Int) by rw [Int.tmod_eq_emod_of_nonneg (by omega)]; rfl, wi64_id (by omega) (by omega)]
  rfl
def bump (m : List (ByteArray × Int)) (t : ByteArray) : List (ByteArray × Int) := mput m t (IntKind.i64.wrap (((mget m t).getD (0 : Int)) + 1))
def twice (m : List (ByteArray × Int)) (t : ByteArray) (tw : Bool) : Bool := decide (((mget (bump m t) t).getD (0 : Int)) > 1) || tw
structure Fine (n : weirlaw14_Net) : Prop where
  few : n.Next.length ≤ 60000
  row : ∀ s, (row n s).length ≤ 60000
def pks (n : weirlaw14_Net) (s : Nat) : List api_Pick := (List.range (row n s).length).map (pk s)
theorem m1_l0 (s : Nat) : ∀ (d k : Nat) (l : List api_Pick), l.length ≤ 60000 → k + d = l.length → (∀ j, j < k → l[j]? = some (pk s j)) →
    weirlaw14_Net__machine_1.l0 (s : Int) (k : Int) l = some ((List.range l.length).map (pk s)) := by
  intro d
  induction d with
  | zero =>
    intro k l hl hk h
    rw [weirlaw14_Net__machine_1.l0, if_neg (nt (decide_eq_false (by omega)))]
    congr 1
    refine List.ext_getElem? fun j => ?_
    by_cases hj : j < l.length
    · rw [h j (by omega)]; simp [hj]
    · rw [List.getElem?_eq_none (by omega), List.getElem?_eq_none (by simp; omega)]
  | succ d ih =>
    intro k l hl hk h
    rw [weirlaw14_Net__machine_1.l0, if_pos (decide_eq_true (by omega)), pick_f s k (by omega)]
    simp only [Option.bind_eq_bind, Option.bind_some]
    rw [if_pos (by omega), w1 (by omega)]
    rw [ih (k + 1) (setl l (k : Int) (pk s k)) (by simp [setl]; omega) (by simp [setl]; omega) (fun j hj => ?_)]
    · simp [setl]
    · unfold setl
      rw [Int.toNat_natCast, List.getElem?_set]
      split
      · rename_i e; subst e; rw [if_pos (by omega)]
      · exact h j (by omega)
theorem tw_bind {β : Type} (m : List (ByteArray × Int)) (t : ByteArray) (tw : Bool) (g : Bool → Option β) :
    ((if (decide (((mget (mput m t (IntKind.i64.wrap (((mget m t).getD (0 : Int)) + 1))) t).getD (0 : Int)) > 1)) = true then some (true) else some (false)).bind fun t16 => (if t16 = true then some true else some tw).bind g) = g (twice m t tw) := by
  unfold twice bump
  split
  · rename_i h; rw [h]; rfl
  · rename_i h; rw [Bool.not_eq_true] at h; rw [h]; rfl
theorem m1_f {n : weirlaw14_Net} (hf : Fine n) {s : Nat} (hs : s < n.Next.length) (p0 p1 p2 : List (ByteArray × Int)) (tw : Bool) :
    weirlaw14_Net__machine_1.f (nm s) p0 p1 p2 tw n = some (pks n s, twice p0 (nm s) tw, bump p0 (nm s)) := by
  have h6 := hf.few
  have hr := hf.row s
  unfold weirlaw14_Net__machine_1.f
  rw [number_f n s (by omega) hs]
  have eg : gt n.Next (s : Int) = row n s := by unfold gt row; rw [Int.toNat_natCast]; rfl
  have h1 : decide ((s : Int) < 0) = false := decide_eq_false (by omega)
  simp only [Option.bind_eq_bind, Option.bind_some, h1, Bool.false_eq_true, if_false, eg]
  rw [tw_bind, if_pos (show 0 ≤ (s : Int) ∧ (s : Int) < (n.Next.length : Int) by omega), if_pos (show 0 ≤ ((row n s).length : Int) ∧ ((row n s).length : Int) * 24 ≤ 140737488355328 by omega)]
  have hl := m1_l0 s (row n s).length 0 (List.replicate ((row n s).length : Int).toNat (⟨0, 0, 0⟩ : api_Pick)) (by simp; omega) (by simp) (fun j hj => by omega)
  rw [show (((0 : Nat)) : Int) = (0 : Int) from rfl] at hl
  rw [hl]
  simp only [List.length_replicate, Int.toNat_natCast]
  rfl
/-- Where a pick leads. -/
def sc (n : weirlaw14_Net) (s k : Nat) : Option (api_Pick × Nat) := if 0 ≤ (row n s).getD k (-1) ∧ (row n s).getD k (-1) < (n.Next.length : Int) then some (pk s k, ((row n s).getD k (-1)).toNat) else none
theorem m2_f {n : weirlaw14_Net} (hf : Fine n) {s k : Nat} (hs : s < n.Next.length) (hk : k < (row n s).length) (p0 p1 p2 : List (ByteArray × Int)) (tw : Bool) :
    weirlaw14_Net__machine_2.f (nm s) (pk s k) n p0 p1 p2 tw = some (match sc n s k with
      | some x => (nm x.2, true, twice p2 (nm s ++ nm k) tw, bump p2 (nm s ++ nm k))
      | none => (⟨#[]⟩, false, twice p2 (nm s ++ nm k) tw, bump p2 (nm s ++ nm k))) := by
  have h6 := hf.few
  have hr := hf.row s
  unfold weirlaw14_Net__machine_2.f
  rw [number_f n s (by omega) hs]
  have eg : gt n.Next (s : Int) = row n s := by unfold gt row; rw [Int.toNat_natCast]; rfl
  have eg2 : gt (row n s) (k : Int) = (row n s).getD k (-1) := by
    unfold gt; rw [Int.toNat_natCast, List.getD_eq_getElem?_getD, List.getD_eq_getElem?_getD, List.getElem?_eq_getElem hk]; rfl
  have h1 : decide ((s : Int) < 0) = false := decide_eq_false (by omega)
  have h2 : decide ((pk s k).Loc < 0) = false := decide_eq_false (by show ¬ ((k : Int) < 0); omega)
  have h3 : decide ((pk s k).Loc ≥ ((row n s).length : Int)) = false := decide_eq_false (by show ¬ ((k : Int) ≥ _); omega)
  have hb : (0 ≤ (s : Int) ∧ (s : Int) < (n.Next.length : Int)) := by omega
  have hb2 : (0 ≤ (k : Int) ∧ (k : Int) < ((row n s).length : Int)) := by omega
  have hp : weirlaw14_pick.f (s : Int) (pk s k).Loc = some (pk s k) := pick_f s k (by omega)
  have hnk : weirlaw14_name.f (pk s k).Loc = some (nm k) := name_f k
  simp only [Option.bind_eq_bind, Option.bind_some, h1, h2, eg, h3, Bool.false_eq_true, if_false, if_pos hb, hp, decide_true, Bool.not_true, hnk]
  rw [if_pos (show (nm s).size + (nm k).size ≤ 9223372036854775807 by rw [nm_size, nm_size]; decide)]
  have e2 : (if decide (((mget (mput p2 (nm s ++ nm k) (IntKind.i64.wrap (((mget p2 (nm s ++ nm k)).getD (0 : Int)) + 1))) (nm s ++ nm k)).getD (0 : Int)) > 1) = true then some true else some tw) = some (twice p2 (nm s ++ nm k) tw) := by
    unfold twice bump
    split
    · rename_i h; rw [h]; rfl
    · rename_i h; rw [Bool.not_eq_true] at h; rw [h]; rfl
  rw [e2]
  simp only [Option.bind_some]
  rw [show (pk s k).Loc = (k : Int) from rfl, if_pos hb2, eg2]
  unfold sc
  by_cases ha : (row n s).getD k (-1) < 0
  · rw [if_pos (decide_eq_true ha), if_neg (by omega)]; rfl
  · rw [if_neg (nt (decide_eq_false ha))]
    by_cases hc : (row n s).getD k (-1) ≥ (n.Next.length : Int)
    · rw [if_pos (decide_eq_true hc), if_neg (by omega)]; rfl
    · rw [if_neg (nt (decide_eq_false hc)), if_pos (by omega)]
      have := name_f ((row n s).getD k (-1)).toNat
      rw [Int.toNat_of_nonneg (by omega)] at this
      rw [this]; rfl
theorem m3_f {n : weirlaw14_Net} (hf : Fine n) {s : Nat} (hs : s < n.Next.length) : ∃ (f : api_Final) (e : Bool), ∀ (p0 p1 p2 : List (ByteArray × Int)) (tw : Bool),
    weirlaw14_Net__machine_3.f (nm s) p0 p1 p2 tw n = some (f, e, twice p1 (nm s) tw, bump p1 (nm s)) := by
  have h6 := hf.few
  have h1 : decide ((s : Int) < 0) = false := decide_eq_false (by omega)
  by_cases he : (s : Int) ≥ (n.End.length : Int) ∨ ¬ gt n.End (s : Int) = true
  · refine ⟨⟨0, Vector.replicate 48 0⟩, false, fun p0 p1 p2 tw => ?_⟩
    unfold weirlaw14_Net__machine_3.f
    rw [number_f n s (by omega) hs]
    simp only [Option.bind_eq_bind, Option.bind_some, h1, Bool.false_eq_true, if_false]
    rw [tw_bind]
    rcases he with he | he
    · rw [if_pos (decide_eq_true he)]; rfl
    · by_cases h2 : (s : Int) ≥ (n.End.length : Int)
      · rw [if_pos (decide_eq_true h2)]; rfl
      · rw [if_neg (nt (decide_eq_false h2)), if_pos (by omega), if_neg he]; rfl
  · have h2 : ¬ (s : Int) ≥ (n.End.length : Int) := fun h => he (.inl h)
    have h3 : gt n.End (s : Int) = true := Classical.not_not.1 fun h => he (.inr h)
    have hv : ∃ x : api_Final, (if decide ((s : Int) < (n.Value.length : Int)) = true then (if 0 ≤ (s : Int) ∧ (s : Int) < (n.Value.length : Int) then (if 0 ≤ (0 : Int) ∧ (0 : Int) < 48 then some ((⟨1, (vset (Vector.replicate 48 0) (0 : Int) (gt n.Value (s : Int)))⟩ : api_Final)) else none) else none) else some ((⟨1, (Vector.replicate 48 0)⟩ : api_Final))) = some x := by
      by_cases h : (s : Int) < (n.Value.length : Int)
      · exact ⟨_, by rw [if_pos (decide_eq_true h), if_pos (by omega), if_pos (by decide)]⟩
      · exact ⟨_, by rw [if_neg (nt (decide_eq_false h))]⟩
    obtain ⟨x, hv⟩ := hv
    have hw : ∃ y : api_Final, (if (vget x.V (0 : Int) == 99) = true then some (⟨-1, x.V⟩ : api_Final) else some x) = some y := by split <;> exact ⟨_, rfl⟩
    obtain ⟨y, hw⟩ := hw
    refine ⟨y, true, fun p0 p1 p2 tw => ?_⟩
    unfold weirlaw14_Net__machine_3.f
    rw [number_f n s (by omega) hs]
    simp only [Option.bind_eq_bind, Option.bind_some, h1, Bool.false_eq_true, if_false]
    rw [tw_bind]
    rw [if_neg (nt (decide_eq_false h2)), if_pos (by omega), if_pos h3]
    simp only [Option.bind_some, Bool.false_eq_true, if_false]
    rw [hv]
    simp only [Option.bind_some]
    rw [if_pos (by decide), hw]
    rfl
end Go.Proofs.Ytfiamlhhhkiiaaa.K
