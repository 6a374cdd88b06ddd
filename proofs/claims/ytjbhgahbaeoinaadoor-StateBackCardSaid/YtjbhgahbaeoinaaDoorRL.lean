/- State codes there and back: StateBack. -/
import Derived.Test.YtjbhgahbaeoinaaDoorRK
set_option linter.unusedVariables false
set_option linter.unusedSimpArgs false
set_option maxRecDepth 100000
namespace Go.Proofs.YtjbhgahbaeoinaaDoor.K
open Go

def zF : api_Final := ⟨0, Vector.replicate 48 0⟩
def codes (vs : List Int) : List Int := vs.flatMap fun v => pcode (zig v)
def vals (f : api_Final) : List Int := f.V.toList.take f.N.toNat
def codeL (f : api_Final) : List Int := pcode (zig f.N) ++ codes (vals f)
theorem codes_cons (v : Int) (vs : List Int) : codes (v :: vs) = pcode (zig v) ++ codes vs := rfl
theorem pcode_len10 {v : Int} (h : inR v) : (pcode (zig v)).length ≤ 10 := by
  have h1 : (128 : Nat) ^ (9 + 1) = 1180591620717411303424 := by decide
  have h2 := zig_lt h
  exact pcode_len 9 _ (by rw [h1]; omega)
theorem codes_len : ∀ {vs : List Int}, (∀ v ∈ vs, inR v) → (codes vs).length ≤ 10 * vs.length
  | [], _ => by simp [codes]
  | v :: vs, h => by
    have h1 := pcode_len10 (h v (List.mem_cons_self ..))
    have h2 := codes_len (vs := vs) (fun x hx => h x (List.mem_cons_of_mem _ hx))
    rw [codes_cons, List.length_append, List.length_cons]; omega
theorem codes_byte (vs : List Int) : ∀ x ∈ codes vs, 0 ≤ x ∧ x < 256 := by
  intro x hx
  obtain ⟨v, _, hv⟩ := List.mem_flatMap.1 hx
  exact pcode_byte _ x hv
theorem codeL_byte (f : api_Final) : ∀ x ∈ codeL f, 0 ≤ x ∧ x < 256 := by
  intro x hx
  rcases List.mem_append.1 hx with h | h
  · exact pcode_byte _ x h
  · exact codes_byte _ x h
def okR (f : api_Final) : Prop := inR f.N ∧ ∀ v ∈ f.V.toList, inR v
theorem write_s (l m : List Int) (h : l.length + m.length ≤ 100000) : bd_write.f (ofBytes l) (ofBytes m) = some ((m.length : Int), ofBytes (l ++ m)) := by
  unfold bd_write.f
  rw [ofBytes_len, ofBytes_len, if_pos (by omega), ofBytes_size, ofBytes_cat]
theorem code_l (f : api_Final) (hR : okR f) (hN : 0 ≤ f.N ∧ f.N ≤ 48) : ∀ (n t : Nat) (l : List Int), t + n = (vals f).length → l.length + 10 * n ≤ 10000 → state_Code.l0 f (t : Int) (ofBytes l) = some (ofBytes (l ++ codes ((vals f).drop t))) := by
  have hv : (f.V.toList.take f.N.toNat).drop 0 = vals f := by rw [List.drop_zero]; rfl
  have hl48 : (vals f).length ≤ 48 := by unfold vals; rw [List.length_take]; simp; omega
  intro n
  induction n with
  | zero =>
    intro t l ht hl
    rw [state_Code.l0, hv, if_neg (nt (decide_eq_false (by omega))), List.drop_of_length_le (by omega)]
    simp [codes]
  | succ n ih =>
    intro t l ht hl
    have h1 : t < (vals f).length := by omega
    have hm : inR (vals f)[t] := hR.2 _ (List.mem_of_mem_take (List.getElem_mem h1))
    have h10 := pcode_len10 hm
    rw [state_Code.l0, hv, if_pos (decide_eq_true (by omega)), if_pos (by omega), gt_nat h1, put_s hm]
    simp only [Option.bind_eq_bind, Option.bind_some]
    rw [write_s _ _ (by omega)]
    simp only [Option.bind_some]
    rw [w1 (by omega), ih (t + 1) _ (by omega) (by rw [List.length_append]; omega), List.drop_eq_getElem_cons h1, codes_cons, List.append_assoc]
theorem code_s (f : api_Final) (hR : okR f) : state_Code.f f = some (if okV f = true then (ofBytes (codeL f), 0) else (⟨#[]⟩, 4)) := by
  unfold state_Code.f
  rw [check_s, chk]
  simp only [Option.bind_eq_bind, Option.bind_some]
  by_cases hk : okV f = true
  · have hN : 0 ≤ f.N ∧ f.N ≤ 48 := by
      unfold okV at hk
      simp only [Bool.and_eq_true, decide_eq_true_eq] at hk
      exact ⟨hk.1.1, hk.1.2⟩
    have hl48 : (vals f).length ≤ 48 := by unfold vals; rw [List.length_take]; simp; omega
    have h10 := pcode_len10 hR.1
    rw [if_pos hk, if_pos hk, if_neg (by decide), put_s hR.1]
    simp only [Option.bind_some]
    have hw := write_s [] (pcode (zig f.N)) (by simp; omega)
    rw [List.nil_append, show ofBytes [] = (⟨#[]⟩ : ByteArray) from rfl] at hw
    rw [hw]
    simp only [Option.bind_some]
    have hc := code_l f hR hN (vals f).length 0 (pcode (zig f.N)) (by omega) (by omega)
    rw [if_pos hN, show ((0 : Int)) = ((0 : Nat) : Int) from rfl, hc, List.drop_zero]
    rfl
  · rw [if_neg hk, if_neg hk, if_pos (by decide)]

/-! ### Back -/
def takeN : Nat → List Int → Option (List Int × List Int)
  | 0, bs => some ([], bs)
  | k + 1, bs => match tcode bs 0 0 with
    | none => none
    | some (u, n) => match takeN k (bs.drop n) with
      | none => none
      | some (vs, r) => some (zag u :: vs, r)
theorem takeN_put (r : List Int) : ∀ vs : List Int, (∀ v ∈ vs, inR v) → takeN vs.length (codes vs ++ r) = some (vs, r)
  | [], _ => rfl
  | v :: vs, h => by
    have h1 := take_put (codes vs ++ r) (zig v) 0 0 (by omega) (by simpa using zig_lt (h v (List.mem_cons_self ..))) (.inl rfl)
    rw [codes_cons, List.append_assoc, List.length_cons]
    simp only [takeN]
    rw [h1]
    simp only [Nat.zero_add, Nat.pow_zero, Nat.mul_one]
    rw [List.drop_left' rfl, takeN_put r vs (fun x hx => h x (List.mem_cons_of_mem _ hx))]
    simp only [zag_zig]
theorem takeN_inv : ∀ (k : Nat) (bs vs r : List Int), (∀ x ∈ bs, 0 ≤ x ∧ x < 256) → takeN k bs = some (vs, r) → vs.length = k ∧ bs = codes vs ++ r ∧ ∀ v ∈ vs, inR v
  | 0, bs, vs, r, _, h => by cases h; exact ⟨rfl, rfl, fun v hv => by cases hv⟩
  | k + 1, bs, vs, r, hb, h => by
    simp only [takeN] at h
    cases ht : tcode bs 0 0 with
    | none => rw [ht] at h; cases h
    | some x =>
      obtain ⟨u, n⟩ := x
      rw [ht] at h
      simp only at h
      obtain ⟨-, w, rest, i1, i2, i3, i4, -⟩ := take_inv bs 0 0 u n hb ht
      simp only [Nat.pow_zero, Nat.mul_one, Nat.zero_add] at i2 i3 i4
      subst i2
      cases hn : takeN k (bs.drop n) with
      | none => rw [hn] at h; cases h
      | some y =>
        obtain ⟨vs', r'⟩ := y
        rw [hn] at h
        cases h
        have hd : bs.drop n = rest := by rw [i1, i3, List.drop_left' rfl]
        rw [hd] at hn
        obtain ⟨j1, j2, j3⟩ := takeN_inv k rest vs' r (fun x hx => hb x (by rw [i1]; exact List.mem_append_right _ hx)) hn
        refine ⟨by rw [List.length_cons, j1], ?_, ?_⟩
        · rw [codes_cons, zig_zag, List.append_assoc, ← j2, i1]
        · intro v hv
          rcases List.mem_cons.1 hv with rfl | hv
          · exact zag_in i4
          · exact j3 v hv
def setF (V : Vector Int 48) : Nat → List Int → Vector Int 48
  | _, [] => V
  | t, v :: vs => setF (vset V (t : Int) v) (t + 1) vs
theorem setF_list : ∀ (vs : List Int) (V : Vector Int 48) (t : Nat), t + vs.length ≤ 48 → (setF V t vs).toList = V.toList.take t ++ vs ++ V.toList.drop (t + vs.length)
  | [], V, t, _ => by simp [setF]
  | v :: vs, V, t, h => by
    rw [List.length_cons] at h
    have hl : V.toList.length = 48 := by simp
    have hs : (vset V (t : Int) v).toList = V.toList.take t ++ v :: V.toList.drop (t + 1) := by
      unfold vset
      rw [Int.toNat_natCast, Vector.toList_setIfInBounds, List.set_eq_take_append_cons_drop, if_pos (by omega)]
    have ht : (V.toList.take t).length = t := by rw [List.length_take]; omega
    have hs' : (vset V (t : Int) v).toList = (V.toList.take t ++ [v]) ++ V.toList.drop (t + 1) := by rw [hs, List.append_assoc]; rfl
    have h1 : (V.toList.take t ++ [v]).length = t + 1 := by rw [List.length_append, ht]; rfl
    simp only [setF]
    rw [setF_list vs _ (t + 1) (by omega), hs', List.take_left' h1, ← List.drop_drop, List.drop_left' h1, List.drop_drop, List.length_cons, show t + 1 + vs.length = t + (vs.length + 1) by omega]
    simp
theorem decode_l (s : ByteArray) (hs : s.size ≤ 281474976710656) (N : Nat) (hN : N ≤ 48) : ∀ (k t p : Nat) (f : api_Final), t + k = N → p ≤ s.size →
    state_Decode.l0 s (N : Int) (p : Int) (t : Int) f = some (match takeN k ((strBytes s).drop p) with
      | none => .inr (zF, 5)
      | some (vs, r) => .inl (((s.size - r.length : Nat) : Int), ⟨f.N, setF f.V t vs⟩)) := by
  have hl := strBytes_len s
  intro k
  induction k with
  | zero =>
    intro t p f ht hp
    rw [state_Decode.l0, if_neg (nt (decide_eq_false (by omega)))]
    simp only [takeN, setF, List.length_drop]
    rw [show s.size - ((strBytes s).length - p) = p by omega]
  | succ k ih =>
    intro t p f ht hp
    rw [state_Decode.l0, if_pos (decide_eq_true (by omega))]
    have htk := take_s s hs p
    simp only [takeN]
    cases hc : tcode ((strBytes s).drop p) 0 0 with
    | none =>
      have h1 : word_Take.f s (p : Int) = some (0, 0, 40) := by rw [htk, hc]; rfl
      rw [h1]; rfl
    | some x =>
      obtain ⟨u, n⟩ := x
      have h1 : word_Take.f s (p : Int) = some (zag u, (n : Int), 0) := by rw [htk, hc]; rfl
      rw [h1]
      simp only [Option.bind_eq_bind, Option.bind_some]
      obtain ⟨-, w, rest, i1, i2, i3, i4, -⟩ := take_inv _ 0 0 u n (fun x hx => strBytes_byte s x (List.mem_of_mem_drop hx)) hc
      simp only [Nat.zero_add] at i3
      have hpn : p + n ≤ s.size := by
        have := congrArg List.length i1
        rw [List.length_append, List.length_drop] at this
        have := pcode_pos w
        omega
      rw [if_neg (show ¬ ((0 : Int) != 0) = true from by decide), if_pos (show (0 : Int) ≤ (t : Int) ∧ (t : Int) < 48 by omega), w1 (by omega), show IntKind.i64.wrap ((p : Int) + (n : Int)) = ((p + n : Nat) : Int) by rw [wi64_id (by omega) (by omega)]; omega]
      rw [ih (t + 1) (p + n) _ (by omega) hpn, List.drop_drop]
      cases takeN k ((strBytes s).drop (p + n)) with
      | none => rfl
      | some y => obtain ⟨vs, r⟩ := y; rfl
/-- What a text stands for. -/
def decL (s : ByteArray) : Option api_Final := match tcode (strBytes s) 0 0 with
  | none => none
  | some (u, n) => if zag u < 0 then none else if zag u > 48 then none else match takeN (zag u).toNat ((strBytes s).drop n) with
    | none => none
    | some (vs, r) => if r = [] then some ⟨zag u, setF (Vector.replicate 48 0) 0 vs⟩ else none
theorem decode_s (s : ByteArray) (hs : s.size ≤ 281474976710656) : state_Decode.f s = some (match decL s with | none => (zF, 5) | some f => (f, 0)) := by
  have hl := strBytes_len s
  unfold state_Decode.f decL
  have h0 := take_s s hs 0
  rw [List.drop_zero, show (((0 : Nat)) : Int) = (0 : Int) from rfl] at h0
  cases hc : tcode (strBytes s) 0 0 with
  | none =>
    have h1 : word_Take.f s 0 = some (0, 0, 40) := by rw [h0, hc]; rfl
    rw [h1]; rfl
  | some x =>
    obtain ⟨u, n⟩ := x
    have h1 : word_Take.f s 0 = some (zag u, (n : Int), 0) := by rw [h0, hc]; rfl
    rw [h1]
    simp only [Option.bind_eq_bind, Option.bind_some]
    obtain ⟨-, w, rest, i1, i2, i3, i4, -⟩ := take_inv _ 0 0 u n (strBytes_byte s) hc
    simp only [Nat.zero_add] at i3
    have hn : n ≤ s.size := by
      have := congrArg List.length i1
      rw [List.length_append] at this
      omega
    rw [if_neg (show ¬ ((0 : Int) != 0) = true from by decide)]
    by_cases c1 : zag u < 0
    · rw [if_pos (decide_eq_true c1), if_pos c1]; rfl
    · rw [if_neg (nt (decide_eq_false c1)), if_neg c1]
      by_cases c2 : zag u > 48
      · rw [if_pos (decide_eq_true c2), if_pos c2]; rfl
      · rw [if_neg (nt (decide_eq_false c2)), if_neg c2]
        have hd := decode_l s hs (zag u).toNat (by omega) (zag u).toNat 0 n ⟨zag u, Vector.replicate 48 0⟩ (by omega) hn
        rw [Int.toNat_of_nonneg (by omega), show (((0 : Nat)) : Int) = (0 : Int) from rfl] at hd
        rw [hd]
        cases ht : takeN (zag u).toNat ((strBytes s).drop n) with
        | none => rfl
        | some y =>
          obtain ⟨vs, r⟩ := y
          simp only [Option.bind_some]
          obtain ⟨j1, j2, j3⟩ := takeN_inv _ _ vs r (fun x hx => strBytes_byte s x (List.mem_of_mem_drop hx)) ht
          have hrl : r.length ≤ s.size := by
            have := congrArg List.length j2
            rw [List.length_append, List.length_drop] at this
            omega
          by_cases hr : r = []
          · subst hr
            rw [if_neg (by simp), if_pos rfl]
          · have : 0 < r.length := List.length_pos_iff.2 hr
            rw [if_pos (by simp only [bne_iff_ne, ne_eq]; omega), if_neg hr]; rfl
end Go.Proofs.YtjbhgahbaeoinaaDoor.K
