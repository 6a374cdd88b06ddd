/- Instructions, as the program and as the document read them. -/
import Derived.Test.YtkhcbamlhckilaaGreatDoorLJ
set_option linter.unusedVariables false
set_option linter.unusedSimpArgs false
namespace Go.Proofs.YtkhcbamlhckilaaGreatDoor.K
open Go

abbrev PAns (α : Type) := Option (Sum PErr (α × List api_Token × Int × Int × Int × PErr))
/-- The program answers and so does the document; or both fail alike. -/
def Sim {α : Type} (s : ByteArray) (r : weirref07_reader) (bad : Option (Int × Nat)) (x : PAns α) (y : Option (α × Int × weirref05_Fault)) : Prop :=
  (∃ (v : α) (h' : List api_Token) (a' i' : Nat), x = some (.inr (v, h', (a' : Int), (plc s a').1, (plc s a').2, .nil)) ∧ Rdr s r.L bad h' a' i' ∧ y = some (v, (i' : Int), ⟨0, 0, 0⟩)) ∨
  (∃ (l c k : Int) (z : α) (i' : Nat), k ≠ 0 ∧ i' < r.L.length ∧ x = some (.inl (.pos l c k)) ∧ y = some (z, (i' : Int), ⟨l, c, k⟩))
theorem sim_bind {α β : Type} {s : ByteArray} {r : weirref07_reader} {bad : Option (Int × Nat)} {x : PAns α} {y : Option (α × Int × weirref05_Fault)} (h : Sim s r bad x y)
    (f : Sum PErr (α × List api_Token × Int × Int × Int × PErr) → PAns β) (g : α × Int × weirref05_Fault → Option (β × Int × weirref05_Fault))
    (hf : ∀ e, f (.inl e) = some (.inl e))
    (hg : ∀ (e : weirref05_Fault) (z : α) (i : Nat), e.Code ≠ 0 → i < r.L.length → ∃ (z' : β) (i' : Nat), i' < r.L.length ∧ g (z, (i : Int), e) = some (z', (i' : Int), e))
    (hs : ∀ (v : α) (h' : List api_Token) (a' i' : Nat), Rdr s r.L bad h' a' i' → Sim s r bad (f (.inr (v, h', (a' : Int), (plc s a').1, (plc s a').2, .nil))) (g (v, (i' : Int), ⟨0, 0, 0⟩))) :
    Sim s r bad (Option.bind x f) (Option.bind y g) := by
  rcases h with ⟨v, h', a', i', rfl, hR, rfl⟩ | ⟨l, c, k, z, i', hk, hi, rfl, rfl⟩
  · exact hs v h' a' i' hR
  · obtain ⟨z', i2, hi2, h2⟩ := hg ⟨l, c, k⟩ z i' hk hi
    refine .inr ⟨l, c, k, z', i2, hk, hi2, ?_, h2⟩
    show f (.inl _) = _
    rw [hf]
section
variable {s : ByteArray} (hs : s.size ≤ 1048576) {r : weirref07_reader} (hl : r.L.length < 9223372036854775807) {bad : Option (Int × Nat)} (hB : r.Bad = flt s bad)
  {h : List api_Token} {a i : Nat} (hR : Rdr s r.L bad h a i) (T : api_Test) (p3 p4 : List litmus_place) (p5 : List (List litmus_place)) (p6 p7 : List litmus_place)
include hs hl hB hR
theorem must_bind {β : Type} (x : ByteArray) (f : Sum PErr (List api_Token × Int × Int × Int × PErr) → PAns β) (g : Int × weirref05_Fault → Option (β × Int × weirref05_Fault))
    (hf : ∀ e, f (.inl e) = some (.inl e)) (hg : ∀ (e : weirref05_Fault) (i : Nat), e.Code ≠ 0 → i < r.L.length → ∃ (z' : β) (i' : Nat), i' < r.L.length ∧ g ((i : Int), e) = some (z', (i' : Int), e))
    (hs' : ∀ (h' : List api_Token) (a' i' : Nat), Rdr s r.L bad h' a' i' → Sim s r bad (f (.inr (h', (a' : Int), (plc s a').1, (plc s a').2, .nil))) (g ((i' : Int), ⟨0, 0, 0⟩))) :
    Sim s r bad (Option.bind (litmus_reader__must.f s (a : Int) (plc s a).1 (plc s a).2 .nil h T p3 p4 p5 p6 p7 x) f) (Option.bind (weirref07_reader__must.f (Dc r (i : Int) ⟨0, 0, 0⟩) x) g) := by
  rcases must_s hs hl hB hR T p3 p4 p5 p6 p7 x with ⟨h', a', i', m1, m2, m3⟩ | ⟨l, c, k, i', hk, hi, m1, m3⟩
  · rw [m1, m3]; exact hs' h' a' i' m2
  · obtain ⟨z', i2, hi2, h2⟩ := hg ⟨l, c, k⟩ i' hk hi
    rw [m1, m3]
    exact .inr ⟨l, c, k, z', i2, hk, hi2, hf _, h2⟩
theorem is_bind {β : Type} (x : ByteArray) (f : Sum PErr (Bool × List api_Token × Int × Int × Int × PErr) → PAns β) (g : Bool × Int → Option (β × Int × weirref05_Fault))
    (hf : ∀ e, f (.inl e) = some (.inl e)) (hg : ∀ (e : weirref05_Fault), e.Code ≠ 0 → Gone r e (i : Int) ⟨0, 0, 0⟩ → ∃ (z' : β) (i' : Nat), i' < r.L.length ∧ g (false, (i : Int)) = some (z', (i' : Int), e))
    (hs' : ∀ (b : Bool) (h' : List api_Token) (a' i' : Nat), Rdr s r.L bad h' a' i' → Sim s r bad (f (.inr (b, h', (a' : Int), (plc s a').1, (plc s a').2, .nil))) (g (b, (i' : Int)))) :
    Sim s r bad (Option.bind (litmus_reader__is.f s (a : Int) (plc s a).1 (plc s a).2 .nil h T p3 p4 p5 p6 p7 x) f) (Option.bind (weirref07_reader__is.f (Dc r (i : Int) ⟨0, 0, 0⟩) x) g) := by
  rcases is_s hs hl hB hR T p3 p4 p5 p6 p7 x with ⟨b, h', a', i', m1, m2, m3⟩ | ⟨l, c, k, hk, m1, hG⟩
  · rw [m1, m3]; exact hs' b h' a' i' m2
  · obtain ⟨z', i2, hi2, h2⟩ := hg ⟨l, c, k⟩ hk hG
    rw [m1, is_g (e := ⟨l, c, k⟩) hk hG]
    exact .inr ⟨l, c, k, z', i2, hk, hi2, hf _, h2⟩
theorem sees_bind {β : Type} (x : ByteArray) (f : Sum PErr (Bool × List api_Token × Int × Int × Int × PErr) → PAns β) (g : Bool → Option (β × Int × weirref05_Fault))
    (hf : ∀ e, f (.inl e) = some (.inl e)) (hg : ∀ (e : weirref05_Fault), e.Code ≠ 0 → Gone r e (i : Int) ⟨0, 0, 0⟩ → ∃ (z' : β) (i' : Nat), i' < r.L.length ∧ g false = some (z', (i' : Int), e))
    (hs' : ∀ (b : Bool) (h' : List api_Token) (a' : Nat), Rdr s r.L bad h' a' i → Sim s r bad (f (.inr (b, h', (a' : Int), (plc s a').1, (plc s a').2, .nil))) (g b)) :
    Sim s r bad (Option.bind (litmus_reader__sees.f s (a : Int) (plc s a).1 (plc s a).2 .nil h T p3 p4 p5 p6 p7 x) f) (Option.bind (weirref07_reader__sees.f (Dc r (i : Int) ⟨0, 0, 0⟩) x) g) := by
  rcases sees_s hs hl hB hR T p3 p4 p5 p6 p7 x with ⟨t, a', m1, m2, m3, m4⟩ | ⟨l, c, k, hk, m1, hG⟩
  · rw [m1, sees_d m3 x, m4]; exact hs' _ [t] a' m2
  · obtain ⟨z', i2, hi2, h2⟩ := hg ⟨l, c, k⟩ hk hG
    rw [m1, sees_g (e := ⟨l, c, k⟩) hk hG rfl]
    exact .inr ⟨l, c, k, z', i2, hk, hi2, hf _, h2⟩
end
/-! ### What is gone stays gone -/
theorem gone_e {r : weirref07_reader} {e : weirref05_Fault} {k : Nat} (hk : k < r.L.length) : Gone r e (k : Int) e := ⟨k, rfl, hk, .inl rfl⟩
section
variable {r : weirref07_reader} {e : weirref05_Fault} (he : e.Code ≠ 0) {i : Int} {F : weirref05_Fault} (hG : Gone r e i F)
include he hG
theorem name_G : weirref07_reader__name.f (Dc r i F) = some (⟨#[]⟩, i, e) := by
  have hw := wrong_g he hG
  unfold weirref07_reader__name.f
  rcases hG with ⟨k, rfl, hk, rfl | ⟨rfl, hB, h0⟩⟩
  · rw [if_pos (by rw [bne_iff_ne]; exact he), hw]; rfl
  · rw [if_neg (by simp), dn hk]
    simp only [Option.bind_eq_bind, Option.bind_some, h0]
    rw [if_pos (by rfl), hw]; rfl
theorem number_G : weirref07_reader__number.f (Dc r i F) = some (0, i, e) := by
  have hw := wrong_g he hG
  unfold weirref07_reader__number.f
  rcases hG with ⟨k, rfl, hk, rfl | ⟨rfl, hB, h0⟩⟩
  · rw [if_pos (by rw [bne_iff_ne]; exact he), hw]; rfl
  · rw [if_neg (by simp), dn hk]
    simp only [Option.bind_eq_bind, Option.bind_some, h0]
    rw [if_pos (by rfl), hw]; rfl
theorem place_G : weirref07_reader__place.f (Dc r i F) = some (⟨#[]⟩, i, e) := by
  obtain ⟨k, rfl, hk, -⟩ := id hG
  have hE : Gone r e (k : Int) e := gone_e hk
  unfold weirref07_reader__place.f
  rw [must_g he hG]
  simp only [Option.bind_eq_bind, Option.bind_some]
  have h1 := name_G he hE
  rw [h1]
  simp only [Option.bind_some]
  have h2 := must_g he hE
  rw [h2]
  rfl
end
section
variable {s : ByteArray} (hs : s.size ≤ 1048576) {r : weirref07_reader} (hl : r.L.length < 9223372036854775807) {bad : Option (Int × Nat)} (hB : r.Bad = flt s bad)
  {h : List api_Token} {a i : Nat} (hR : Rdr s r.L bad h a i) (T : api_Test) (p3 p4 : List litmus_place) (p5 : List (List litmus_place)) (p6 p7 : List litmus_place)
include hs hl hB hR
/-- Behind MOV. -/
theorem mov_s : Sim s r bad (litmus_reader__mov.f s (a : Int) (plc s a).1 (plc s a).2 .nil h T p3 p4 p5 p6 p7) (weirref07_reader__mov.f (Dc r (i : Int) ⟨0, 0, 0⟩)) := by
  unfold litmus_reader__mov.f weirref07_reader__mov.f
  simp only [Option.bind_eq_bind]
  refine sees_bind hs hl hB hR T p3 p4 p5 p6 p7 _ _ _ (fun e => rfl) ?_ ?_
  · intro e he hG
    obtain ⟨k, hk1, hk, -⟩ := id hG
    obtain rfl : i = k := by omega
    have hE : Gone r e (i : Int) e := gone_e hk
    have hc : (e.Code == 0) = false := by rw [beq_eq_false_iff_ne]; exact he
    refine ⟨⟨2, ⟨#[]⟩, ⟨#[]⟩, ⟨#[]⟩, 0⟩, i, hk, ?_⟩
    simp only [name_G he hG, must_g he hE, is_g he hE, name_G he hE, Option.bind_some, hc, Bool.false_eq_true, if_false]
  · intro b h1 a1 hR1
    cases b
    · simp only [Bool.false_eq_true, if_false]
      refine sim_bind (name_s hs hl hB hR1 T p3 p4 p5 p6 p7) _ _ (fun e => rfl) ?_ ?_
      · intro e z k he hk
        have hE : Gone r e (k : Int) e := gone_e hk
        have hc : (e.Code == 0) = false := by rw [beq_eq_false_iff_ne]; exact he
        refine ⟨⟨2, z, ⟨#[]⟩, ⟨#[]⟩, 0⟩, k, hk, ?_⟩
        simp only [must_g he hE, is_g he hE, name_G he hE, Option.bind_some, hc, Bool.false_eq_true, if_false]
      · intro v h2 a2 i2 hR2
        refine must_bind hs hl hB hR2 T p3 p4 p5 p6 p7 _ _ _ (fun e => rfl) ?_ ?_
        · intro e k he hk
          have hE : Gone r e (k : Int) e := gone_e hk
          have hc : (e.Code == 0) = false := by rw [beq_eq_false_iff_ne]; exact he
          refine ⟨⟨2, v, ⟨#[]⟩, ⟨#[]⟩, 0⟩, k, hk, ?_⟩
          simp only [must_g he hE, is_g he hE, name_G he hE, Option.bind_some, hc, Bool.false_eq_true, if_false]
        · intro h3 a3 i3 hR3
          refine is_bind hs hl hB hR3 T p3 p4 p5 p6 p7 _ _ _ (fun e => rfl) ?_ ?_
          · intro e he hG
            obtain ⟨k, hk1, hk, -⟩ := id hG
            obtain rfl : i3 = k := by omega
            refine ⟨⟨2, v, ⟨#[]⟩, ⟨#[]⟩, 0⟩, i3, hk, ?_⟩
            have hc : (((0 : Int) == 0) = true) = True := by decide
            simp only [sees_g he hG rfl, name_G he hG, Option.bind_some, hc, Bool.false_eq_true, if_false, if_true]
          · intro b h4 a4 i4 hR4
            cases b
            · have hc : (((0 : Int) == 0) = true) = True := by decide
              simp only [Bool.false_eq_true, if_false, hc, if_true, Option.bind_assoc]
              refine sees_bind hs hl hB hR4 T p3 p4 p5 p6 p7 _ _ _ (fun e => rfl) ?_ ?_
              · intro e he hG
                obtain ⟨k, hk1, hk, -⟩ := id hG
                obtain rfl : i4 = k := by omega
                refine ⟨⟨2, v, ⟨#[]⟩, ⟨#[]⟩, 0⟩, i4, hk, ?_⟩
                simp only [name_G he hG, Option.bind_some, Bool.false_eq_true, if_false]
              · intro b h5 a5 hR5
                cases b
                · simp only [Bool.false_eq_true, if_false, Option.bind_assoc]
                  refine sim_bind (name_s hs hl hB hR5 T p3 p4 p5 p6 p7) _ _ (fun e => rfl) (fun e z k he hk => ⟨_, k, hk, rfl⟩) ?_
                  intro w h6 a6 i6 hR6
                  exact .inl ⟨_, h6, a6, i6, rfl, hR6, rfl⟩
                · simp only [if_true, Option.bind_assoc]
                  refine sim_bind (place_s hs hl hB hR5 T p3 p4 p5 p6 p7) _ _ (fun e => rfl) (fun e z k he hk => ⟨_, k, hk, rfl⟩) ?_
                  intro w h6 a6 i6 hR6
                  exact .inl ⟨_, h6, a6, i6, rfl, hR6, rfl⟩
            · simp only [if_true, Option.bind_assoc]
              refine sim_bind (number_s hs hl hB hR4 T p3 p4 p5 p6 p7) _ _ (fun e => rfl) (fun e z k he hk => ⟨_, k, hk, rfl⟩) ?_
              intro w h6 a6 i6 hR6
              exact .inl ⟨_, h6, a6, i6, rfl, hR6, rfl⟩
    · simp only [if_true]
      refine sim_bind (place_s hs hl hB hR1 T p3 p4 p5 p6 p7) _ _ (fun e => rfl) ?_ ?_
      · intro e z k he hk
        have hE : Gone r e (k : Int) e := gone_e hk
        refine ⟨⟨5, ⟨#[]⟩, ⟨#[]⟩, z, 0⟩, k, hk, ?_⟩
        simp only [must_g he hE, is_g he hE, name_G he hE, Option.bind_some, Bool.false_eq_true, if_false]
      · intro v h2 a2 i2 hR2
        refine must_bind hs hl hB hR2 T p3 p4 p5 p6 p7 _ _ _ (fun e => rfl) ?_ ?_
        · intro e k he hk
          have hE : Gone r e (k : Int) e := gone_e hk
          refine ⟨⟨5, ⟨#[]⟩, ⟨#[]⟩, v, 0⟩, k, hk, ?_⟩
          simp only [must_g he hE, is_g he hE, name_G he hE, Option.bind_some, Bool.false_eq_true, if_false]
        · intro h3 a3 i3 hR3
          refine is_bind hs hl hB hR3 T p3 p4 p5 p6 p7 _ _ _ (fun e => rfl) ?_ ?_
          · intro e he hG
            obtain ⟨k, hk1, hk, -⟩ := id hG
            obtain rfl : i3 = k := by omega
            refine ⟨⟨5, ⟨#[]⟩, ⟨#[]⟩, v, 0⟩, i3, hk, ?_⟩
            simp only [name_G he hG, Option.bind_some, Bool.false_eq_true, if_false]
          · intro b h4 a4 i4 hR4
            cases b
            · simp only [Bool.false_eq_true, if_false]
              refine sim_bind (name_s hs hl hB hR4 T p3 p4 p5 p6 p7) _ _ (fun e => rfl) (fun e z k he hk => ⟨_, k, hk, rfl⟩) ?_
              intro w h6 a6 i6 hR6
              exact .inl ⟨_, h6, a6, i6, rfl, hR6, rfl⟩
            · simp only [if_true]
              refine sim_bind (number_s hs hl hB hR4 T p3 p4 p5 p6 p7) _ _ (fun e => rfl) (fun e z k he hk => ⟨_, k, hk, rfl⟩) ?_
              intro w h6 a6 i6 hR6
              exact .inl ⟨_, h6, a6, i6, rfl, hR6, rfl⟩
end
end Go.Proofs.YtkhcbamlhckilaaGreatDoor.K
