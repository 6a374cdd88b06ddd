/- StateBack: states, their codes, and back. -/
import Derived.Test.YtjbhgahbaeoinaaDoorRL
set_option linter.unusedVariables false
set_option linter.unusedSimpArgs false
set_option maxRecDepth 100000
namespace Go.Proofs.YtjbhgahbaeoinaaDoor.K
open Go

theorem okV_spec {f : api_Final} : okV f = true ↔ 0 ≤ f.N ∧ f.N ≤ 48 ∧ ∀ x ∈ f.V.toList.drop f.N.toNat, x = 0 := by
  unfold okV
  simp only [Bool.and_eq_true, decide_eq_true_eq, List.all_eq_true, beq_iff_eq, and_assoc]
theorem vals_len {f : api_Final} (h : f.N ≤ 48) : (vals f).length = f.N.toNat := by
  unfold vals; rw [List.length_take]; simp; omega
theorem vals_in {f : api_Final} (h : okR f) : ∀ v ∈ vals f, inR v := fun v hv => h.2 v (List.mem_of_mem_take hv)
theorem back1 {f : api_Final} (hR : okR f) (hV : okV f = true) : decL (ofBytes (codeL f)) = some f := by
  obtain ⟨n0, n1, hz⟩ := okV_spec.1 hV
  unfold decL
  rw [strBytes_of (codeL_byte f)]
  have h1 := take_put (codes (vals f)) (zig f.N) 0 0 (by omega) (by simpa using zig_lt hR.1) (.inl rfl)
  unfold codeL
  rw [h1]
  simp only [Nat.zero_add, Nat.pow_zero, Nat.mul_one, zag_zig]
  rw [if_neg (by omega), if_neg (by omega), List.drop_left' rfl]
  have h2 := takeN_put [] (vals f) (vals_in hR)
  rw [List.append_nil, vals_len n1] at h2
  rw [h2]
  simp only [if_true]
  congr 1
  obtain ⟨n, V⟩ := f
  congr 1
  apply Vector.toList_inj.1
  have hl : V.toList.length = 48 := by simp
  have hvl := vals_len n1
  rw [setF_list _ _ 0 (by rw [hvl]; simp only at *; omega), hvl]
  simp only [Nat.zero_add, List.take_zero, List.nil_append]
  have h3 : V.toList = V.toList.take n.toNat ++ V.toList.drop n.toNat := (List.take_append_drop _ _).symm
  conv => rhs; rw [h3]
  unfold vals
  congr 1
  simp only at hz
  have h4 : V.toList.drop n.toNat = List.replicate (48 - n.toNat) 0 := List.eq_replicate_iff.2 ⟨by rw [List.length_drop, hl], fun x hx => hz x hx⟩
  rw [h4, Vector.toList_replicate, List.drop_replicate]
theorem back2 {s : ByteArray} {f : api_Final} (h : decL s = some f) : okR f ∧ okV f = true ∧ codeL f = strBytes s := by
  unfold decL at h
  cases hc : tcode (strBytes s) 0 0 with
  | none => rw [hc] at h; cases h
  | some x =>
    obtain ⟨u, n⟩ := x
    rw [hc] at h
    simp only at h
    obtain ⟨-, w, rest, i1, i2, i3, i4, -⟩ := take_inv _ 0 0 u n (strBytes_byte s) hc
    simp only [Nat.pow_zero, Nat.mul_one, Nat.zero_add] at i2 i3 i4
    subst i2
    by_cases c1 : zag u < 0
    · rw [if_pos c1] at h; cases h
    · rw [if_neg c1] at h
      by_cases c2 : zag u > 48
      · rw [if_pos c2] at h; cases h
      · rw [if_neg c2] at h
        have hd : (strBytes s).drop n = rest := by rw [i1, i3, List.drop_left' rfl]
        cases ht : takeN (zag u).toNat ((strBytes s).drop n) with
        | none => rw [ht] at h; cases h
        | some y =>
          obtain ⟨vs, r⟩ := y
          rw [ht] at h
          simp only at h
          by_cases hr : r = []
          · rw [if_pos hr] at h
            cases h
            subst hr
            obtain ⟨j1, j2, j3⟩ := takeN_inv _ _ vs [] (fun x hx => strBytes_byte s x (List.mem_of_mem_drop hx)) ht
            rw [List.append_nil] at j2
            have hV : (setF (Vector.replicate 48 0) 0 vs).toList = vs ++ List.replicate (48 - (zag u).toNat) 0 := by
              rw [setF_list _ _ 0 (by omega), j1]; simp only [Nat.zero_add, List.take_zero, List.nil_append, Vector.toList_replicate, List.drop_replicate]
            refine ⟨⟨zag_in i4, fun v hv => ?_⟩, okV_spec.2 ⟨by simp only; omega, by simp only; omega, fun x hx => ?_⟩, ?_⟩
            · simp only [hV] at hv
              rcases List.mem_append.1 hv with h | h
              · exact j3 v h
              · rw [(List.mem_replicate.1 h).2]; unfold inR; omega
            · simp only [hV] at hx
              rw [List.drop_left' j1] at hx
              exact (List.mem_replicate.1 hx).2
            · unfold codeL vals
              simp only [hV, zig_zag]
              rw [List.take_left' j1, i1, ← j2, hd]
          · rw [if_neg hr] at h; cases h
theorem codes_cancel : ∀ (vs ws r : List Int), (∀ v ∈ vs, inR v) → (∀ v ∈ ws, inR v) → vs.length = ws.length → codes vs ++ r = codes ws → vs = ws ∧ r = []
  | [], [], r, _, _, _, h => ⟨rfl, by simpa [codes] using h⟩
  | [], _ :: _, _, _, _, h, _ => by simp at h
  | _ :: _, [], _, _, _, h, _ => by simp at h
  | v :: vs, w :: ws, r, hv, hw, hl, h => by
    rw [codes_cons, codes_cons, List.append_assoc] at h
    obtain ⟨h1, h2⟩ := put_cancel (zig_lt (hv v (List.mem_cons_self ..))) (zig_lt (hw w (List.mem_cons_self ..))) h
    obtain ⟨h3, h4⟩ := codes_cancel vs ws r (fun x hx => hv x (List.mem_cons_of_mem _ hx)) (fun x hx => hw x (List.mem_cons_of_mem _ hx)) (by simpa using hl) h2
    have h5 : v = w := by rw [← zag_zig v, h1, zag_zig]
    exact ⟨by rw [h5, h3], h4⟩
theorem begins_eq {f g : api_Final} {r : List Int} (hf : okR f) (hg : okR g) (vf : okV f = true) (vg : okV g = true) (h : codeL f ++ r = codeL g) : f = g := by
  have h0 := h
  unfold codeL at h
  rw [List.append_assoc] at h
  obtain ⟨h1, h2⟩ := put_cancel (zig_lt hf.1) (zig_lt hg.1) h
  have h3 : f.N = g.N := by rw [← zag_zig f.N, h1, zag_zig]
  obtain ⟨h4, h5⟩ := codes_cancel _ _ _ (vals_in hf) (vals_in hg) (by rw [vals_len (okV_spec.1 vf).2.1, vals_len (okV_spec.1 vg).2.1, h3]) h2
  subst h5
  rw [List.append_nil] at h0
  have b1 := back1 hf vf
  have b2 := back1 hg vg
  rw [h0, b2] at b1
  exact (Option.some.inj b1).symm
theorem strBytes_extract (b : ByteArray) (n : Nat) : strBytes (b.extract 0 n) = (strBytes b).take n := by
  simp [strBytes, ByteArray.data_extract, ← List.map_take]
theorem seq_p (x y : ByteArray) : seq x y = decide (x = y) := by
  unfold seq
  by_cases h : x = y
  · subst h; simp
  · rw [decide_eq_false h, ByteArray.toList_eq, ByteArray.toList_eq]
    refine Bool.eq_false_iff.2 (fun e => h ?_)
    obtain ⟨a⟩ := x
    obtain ⟨b⟩ := y
    rw [beq_iff_eq] at e
    exact congrArg ByteArray.mk (Array.toList_inj.1 e)
theorem begins_iff {f g : api_Final} (hf : okR f) (hg : okR g) (vf : okV f = true) (vg : okV g = true) :
    ((ofBytes (codeL f)).size ≤ (ofBytes (codeL g)).size ∧ (ofBytes (codeL g)).extract 0 (ofBytes (codeL f)).size = ofBytes (codeL f)) ↔ f = g := by
  constructor
  · rintro ⟨h1, h2⟩
    have h3 := congrArg strBytes h2
    rw [strBytes_extract, strBytes_of (codeL_byte f), strBytes_of (codeL_byte g), ofBytes_size] at h3
    refine begins_eq (r := (codeL g).drop (codeL f).length) hf hg vf vg ?_
    conv => lhs; rw [← h3]
    rw [List.length_take, ofBytes_size, ofBytes_size] at *
    rw [Nat.min_eq_left h1, List.take_append_drop]
  · rintro rfl
    refine ⟨Nat.le_refl _, strBytes_inj ?_⟩
    rw [strBytes_extract, strBytes_of (codeL_byte f), ofBytes_size, List.take_of_length_le (Nat.le_refl _)]
theorem inR_wf {x : Int} (h : (Lit.int .i64 x).wf = true) : inR x := by
  simp only [Lit.wf, Bool.and_eq_true, decide_eq_true_eq] at h
  exact h
theorem okR_of {f : api_Final} (h : ok_api_Final f) : okR f := by
  refine ⟨inR_wf h.1, fun v hv => ?_⟩
  obtain ⟨i, hi, rfl⟩ := List.mem_iff_getElem.1 hv
  have hi' : i < 48 := by simpa using hi
  have := h.2 (i : Int) (by omega) (by omega)
  rw [vget_nat hi'] at this
  exact inR_wf this
theorem num_s (x : Int) : weirlaw10_num.f x = some x := rfl
theorem back_true (f g : api_Final) (s : ByteArray) (hf : okR f) (hg : okR g) (hs : s.size ≤ 281474976710656) : weirlaw10_StateBack.f f g s = some true := by
  have hlen : ∀ h : api_Final, okR h → okV h = true → (ofBytes (codeL h)).size ≤ 281474976710656 := by
    intro h hR hV
    rw [ofBytes_size]
    unfold codeL
    rw [List.length_append]
    have h1 := pcode_len10 hR.1
    have h2 := codes_len (vals_in hR)
    rw [vals_len (okV_spec.1 hV).2.1] at h2
    have := (okV_spec.1 hV).2.1
    omega
  unfold weirlaw10_StateBack.f
  rw [works_true, code_s f hf, code_s g hg, decode_s s hs]
  simp only [Option.bind_eq_bind, Option.bind_some, Bool.not_true, Bool.false_eq_true, if_false, num_s]
  -- the last part
  have hlast : ∀ (d : Option api_Final), decL s = d → ((if ((match d with | none => (zF, 5) | some f => (f, 0) : api_Final × Int).2 != 0) = true then (if decide ((match d with | none => (zF, 5) | some f => (f, 0) : api_Final × Int).1 = (⟨0, (Vector.replicate 48 0)⟩ : api_Final)) = true then some true else some false)
      else (state_Code.f (match d with | none => (zF, 5) | some f => (f, 0) : api_Final × Int).1).bind fun x => (state_Check.f (match d with | none => (zF, 5) | some f => (f, 0) : api_Final × Int).1).bind fun t96 => if (t96 == 0) = true then (if (x.2 == 0) = true then (if seq x.1 s = true then some true else some false) else some false) else some false) : Option Bool) = some true := by
    intro d hd
    cases d with
    | none => simp [zF]
    | some x =>
      obtain ⟨b1, b2, b3⟩ := back2 hd
      simp only [bne_self_eq_false, Bool.false_eq_true, if_false]
      rw [code_s x b1, if_pos b2, check_s, chk, if_pos b2, b3, ofBytes_str]
      simp [seq_p]
  have hfin := hlast _ rfl
  by_cases vf : okV f = true
  · have hd := decode_s (ofBytes (codeL f)) (hlen f hf vf)
    rw [back1 hf vf] at hd
    simp only at hd
    by_cases vg : okV g = true
    · have hb := begins_iff hf hg vf vg
      by_cases e : f = g
      · obtain ⟨q1, q2⟩ := hb.2 e
        simp only [if_pos vf, if_pos vg, beq_self_eq_true, if_true, hd, Option.bind_some, bne_self_eq_false, Bool.false_eq_true, if_false, decide_true, Bool.not_true]
        rw [if_pos (decide_eq_true (by omega)), if_pos (show (0 : Int) ≤ ((ofBytes (codeL f)).size : Int) ∧ ((ofBytes (codeL f)).size : Int) ≤ ((ofBytes (codeL g)).size : Int) by omega), Int.toNat_natCast, q2, seq_p, decide_eq_true rfl]
        simp only [if_true, Option.bind_some, decide_eq_true e]
        exact hfin
      · have hne : ¬ ((ofBytes (codeL f)).size ≤ (ofBytes (codeL g)).size ∧ (ofBytes (codeL g)).extract 0 (ofBytes (codeL f)).size = ofBytes (codeL f)) := fun h => e (hb.1 h)
        have ht : ((if decide (((ofBytes (codeL f)).size : Int) ≤ ((ofBytes (codeL g)).size : Int)) = true then (if 0 ≤ ((ofBytes (codeL f)).size : Int) ∧ ((ofBytes (codeL f)).size : Int) ≤ ((ofBytes (codeL g)).size : Int) then (if seq ((ofBytes (codeL g)).extract 0 ((ofBytes (codeL f)).size : Int).toNat) (ofBytes (codeL f)) = true then some true else some false) else none) else some false) : Option Bool) = some false := by
          by_cases q1 : (ofBytes (codeL f)).size ≤ (ofBytes (codeL g)).size
          · rw [if_pos (decide_eq_true (by omega)), if_pos (by omega), Int.toNat_natCast, seq_p, decide_eq_false (fun h => hne ⟨q1, h⟩)]; rfl
          · rw [if_neg (nt (decide_eq_false (by omega)))]
        simp only [if_pos vf, if_pos vg, beq_self_eq_true, if_true, hd, Option.bind_some, bne_self_eq_false, Bool.false_eq_true, if_false, decide_true, Bool.not_true, ht, decide_eq_false e]
        exact hfin
    · simp only [if_pos vf, if_neg vg, beq_self_eq_true, if_true, hd, Option.bind_some, bne_self_eq_false, Bool.false_eq_true, if_false, decide_true, Bool.not_true]
      exact hfin
  · simp only [if_neg vf, Option.bind_some]
    exact hfin
theorem back_law (f g : api_Final) (s : ByteArray) (hf : ok_api_Final f) (hg : ok_api_Final g) (hs : s.size ≤ reachBytes) : weirlaw10_StateBack.f f g s = some true :=
  back_true f g s (okR_of hf) (okR_of hg) (Nat.le_trans hs (by decide))
end Go.Proofs.YtjbhgahbaeoinaaDoor.K
