/- Instructions and texts of one instruction. -/
import Derived.Test.YtkhcbamlhckilaaGreatDoorLK
set_option linter.unusedVariables false
set_option linter.unusedSimpArgs false
namespace Go.Proofs.YtkhcbamlhckilaaGreatDoor.K
open Go

section
variable {s : ByteArray} (hs : s.size ≤ 1048576) {r : weirref07_reader} (hl : r.L.length < 9223372036854775807) {bad : Option (Int × Nat)} (hB : r.Bad = flt s bad)
  {h : List api_Token} {a i : Nat} (hR : Rdr s r.L bad h a i) (T : api_Test) (p3 p4 : List litmus_place) (p5 : List (List litmus_place)) (p6 p7 : List litmus_place)
include hs hl hB hR
theorem instr_s : Sim s r bad (litmus_reader__instr.f s (a : Int) (plc s a).1 (plc s a).2 .nil h T p3 p4 p5 p6 p7) (weirref07_reader__instr.f (Dc r (i : Int) ⟨0, 0, 0⟩)) := by
  unfold litmus_reader__instr.f weirref07_reader__instr.f
  simp only [Option.bind_eq_bind]
  refine is_bind hs hl hB hR T p3 p4 p5 p6 p7 _ _ _ (fun e => rfl) ?_ ?_
  · intro e he hG
    obtain ⟨k, hk1, hk, -⟩ := id hG
    obtain rfl : i = k := by omega
    refine ⟨⟨0, ⟨#[]⟩, ⟨#[]⟩, ⟨#[]⟩, 0⟩, i, hk, ?_⟩
    simp only [is_g he hG, wrong_g he hG, Option.bind_some, Bool.false_eq_true, if_false]
  · intro b h1 a1 i1 hR1
    cases b
    · simp only [Bool.false_eq_true, if_false]
      refine is_bind hs hl hB hR1 T p3 p4 p5 p6 p7 _ _ _ (fun e => rfl) ?_ ?_
      · intro e he hG
        obtain ⟨k, hk1, hk, -⟩ := id hG
        obtain rfl : i1 = k := by omega
        refine ⟨⟨0, ⟨#[]⟩, ⟨#[]⟩, ⟨#[]⟩, 0⟩, i1, hk, ?_⟩
        simp only [is_g he hG, wrong_g he hG, Option.bind_some, Bool.false_eq_true, if_false]
      · intro b h2 a2 i2 hR2
        cases b
        · simp only [Bool.false_eq_true, if_false]
          refine is_bind hs hl hB hR2 T p3 p4 p5 p6 p7 _ _ _ (fun e => rfl) ?_ ?_
          · intro e he hG
            obtain ⟨k, hk1, hk, -⟩ := id hG
            obtain rfl : i2 = k := by omega
            refine ⟨⟨0, ⟨#[]⟩, ⟨#[]⟩, ⟨#[]⟩, 0⟩, i2, hk, ?_⟩
            simp only [is_g he hG, wrong_g he hG, Option.bind_some, Bool.false_eq_true, if_false]
          · intro b h4 a4 i4 hR4
            cases b
            · simp only [Bool.false_eq_true, if_false]
              rcases is_s hs hl hB hR4 T p3 p4 p5 p6 p7 (⟨#[76, 79, 67, 75]⟩ : ByteArray) with ⟨b, h5, a5, i5, m1, m2, m3⟩ | ⟨l, c, k, hk, m1, hG⟩
              · cases b
                · obtain ⟨hi0, l, c, k, hk0, s1, s2⟩ := syn_s hs hl hB m2 T p3 p4 p5 p6 p7
                  have hm : litmus_reader__must.f s (a4 : Int) (plc s a4).1 (plc s a4).2 .nil h4 T p3 p4 p5 p6 p7 (⟨#[76, 79, 67, 75]⟩ : ByteArray) = some (.inl (.pos l c k)) := by
                    unfold litmus_reader__must.f; rw [m1]; simp only [Option.bind_eq_bind, Option.bind_some]; rw [if_pos (by rfl), s1]; rfl
                  refine .inr ⟨l, c, k, ⟨0, ⟨#[]⟩, ⟨#[]⟩, ⟨#[]⟩, 0⟩, i5, hk0, hi0, ?_, ?_⟩
                  · rw [hm]; rfl
                  · rw [m3]; simp only [Option.bind_some, Bool.false_eq_true, if_false]
                    have s2' : weirref07_reader__wrong.f (Dc r (i5 : Int) ⟨0, 0, 0⟩) = _ := s2
                    rw [s2']; rfl
                · have hm : litmus_reader__must.f s (a4 : Int) (plc s a4).1 (plc s a4).2 .nil h4 T p3 p4 p5 p6 p7 (⟨#[76, 79, 67, 75]⟩ : ByteArray) = some (.inr (h5, (a5 : Int), (plc s a5).1, (plc s a5).2, .nil)) := by
                    unfold litmus_reader__must.f; rw [m1]; rfl
                  rw [hm, m3]
                  simp only [Option.bind_some, if_true]
                  refine is_bind hs hl hB m2 T p3 p4 p5 p6 p7 _ _ _ (fun e => rfl) ?_ ?_
                  · intro e he hG
                    obtain ⟨k, hk1, hk, -⟩ := id hG
                    obtain rfl : i5 = k := by omega
                    have hE : Gone r e (i5 : Int) e := gone_e hk
                    have hc : (((9 : Int) == 8) = true) = False := by decide
                    refine ⟨⟨9, ⟨#[]⟩, ⟨#[]⟩, ⟨#[]⟩, 0⟩, i5, hk, ?_⟩
                    simp only [must_g he hG, must_g he hE, place_G he hE, name_G he hE, Option.bind_some, Bool.not_false, if_true, hc, if_false]
                  · intro b h6 a6 i6 hR6
                    cases b
                    · simp only [Bool.not_false, if_true, Option.bind_assoc]
                      refine must_bind hs hl hB hR6 T p3 p4 p5 p6 p7 _ _ _ (fun e => rfl) ?_ ?_
                      · intro e k he hk
                        have hE : Gone r e (k : Int) e := gone_e hk
                        have hc : (((9 : Int) == 8) = true) = False := by decide
                        refine ⟨⟨9, ⟨#[]⟩, ⟨#[]⟩, ⟨#[]⟩, 0⟩, k, hk, ?_⟩
                        simp only [must_g he hE, place_G he hE, name_G he hE, Option.bind_some, hc, if_false]
                      · intro h7 a7 i7 hR7
                        simp only [Option.bind_some]
                        refine sim_bind (place_s hs hl hB hR7 T p3 p4 p5 p6 p7) _ _ (fun e => rfl) ?_ ?_
                        · intro e z k he hk
                          have hE : Gone r e (k : Int) e := gone_e hk
                          have hc : (((9 : Int) == 8) = true) = False := by decide
                          refine ⟨⟨9, ⟨#[]⟩, ⟨#[]⟩, z, 0⟩, k, hk, ?_⟩
                          simp only [must_g he hE, name_G he hE, Option.bind_some, hc, if_false]
                        · intro v h8 a8 i8 hR8
                          simp only [Option.bind_some]
                          refine must_bind hs hl hB hR8 T p3 p4 p5 p6 p7 _ _ _ (fun e => rfl) ?_ ?_
                          · intro e k he hk
                            have hE : Gone r e (k : Int) e := gone_e hk
                            have hc : (((9 : Int) == 8) = true) = False := by decide
                            refine ⟨⟨9, ⟨#[]⟩, ⟨#[]⟩, v, 0⟩, k, hk, ?_⟩
                            simp only [name_G he hE, Option.bind_some, hc, if_false]
                          · intro h9 a9 i9 hR9
                            simp only [Bool.false_eq_true, if_false]
                            have hc : (((9 : Int) == 8) = true) = False := by decide
                            refine sim_bind (name_s hs hl hB hR9 T p3 p4 p5 p6 p7) _ _ (fun e => rfl) ?_ ?_
                            · intro e z k he hk
                              refine ⟨⟨9, z, ⟨#[]⟩, v, 0⟩, k, hk, ?_⟩
                              simp only [hc, if_false, Option.bind_some]
                            · intro w ha aa ia hRa
                              simp only [hc, if_false, Option.bind_some]
                              exact .inl ⟨_, ha, aa, ia, rfl, hRa, rfl⟩
                    · simp only [Bool.not_true, Bool.false_eq_true, if_false, Option.bind_some]
                      refine sim_bind (place_s hs hl hB hR6 T p3 p4 p5 p6 p7) _ _ (fun e => rfl) ?_ ?_
                      · intro e z k he hk
                        have hE : Gone r e (k : Int) e := gone_e hk
                        have hc : (((8 : Int) == 8) = true) = True := by decide
                        refine ⟨⟨8, ⟨#[]⟩, ⟨#[]⟩, z, 0⟩, k, hk, ?_⟩
                        simp only [must_g he hE, name_G he hE, Option.bind_some, hc, if_true]
                      · intro v h8 a8 i8 hR8
                        simp only [Option.bind_some]
                        refine must_bind hs hl hB hR8 T p3 p4 p5 p6 p7 _ _ _ (fun e => rfl) ?_ ?_
                        · intro e k he hk
                          have hE : Gone r e (k : Int) e := gone_e hk
                          have hc : (((8 : Int) == 8) = true) = True := by decide
                          refine ⟨⟨8, ⟨#[]⟩, ⟨#[]⟩, v, 0⟩, k, hk, ?_⟩
                          simp only [name_G he hE, Option.bind_some, hc, if_true]
                        · intro h9 a9 i9 hR9
                          have hc : (((8 : Int) == 8) = true) = True := by decide
                          simp only [if_true]
                          refine sim_bind (name_s hs hl hB hR9 T p3 p4 p5 p6 p7) _ _ (fun e => rfl) ?_ ?_
                          · intro e z k he hk
                            refine ⟨⟨8, ⟨#[]⟩, z, v, 0⟩, k, hk, ?_⟩
                            simp only [hc, if_true, Option.bind_some]
                          · intro w ha aa ia hRa
                            simp only [hc, if_true, Option.bind_some]
                            exact .inl ⟨_, ha, aa, ia, rfl, hRa, rfl⟩
              · obtain ⟨j, hj1, hj, -⟩ := id hG
                obtain rfl : i4 = j := by omega
                refine .inr ⟨l, c, k, ⟨0, ⟨#[]⟩, ⟨#[]⟩, ⟨#[]⟩, 0⟩, i4, hk, hj, ?_, ?_⟩
                · unfold litmus_reader__must.f; rw [m1]; rfl
                · simp only [is_g (e := ⟨l, c, k⟩) hk hG, wrong_g (e := ⟨l, c, k⟩) hk hG, Option.bind_some, Bool.false_eq_true, if_false]
            · simp only [if_true]
              refine sim_bind (place_s hs hl hB hR4 T p3 p4 p5 p6 p7) _ _ (fun e => rfl) ?_ ?_
              · intro e z k he hk
                have hE : Gone r e (k : Int) e := gone_e hk
                refine ⟨⟨7, ⟨#[]⟩, ⟨#[]⟩, z, 0⟩, k, hk, ?_⟩
                simp only [must_g he hE, name_G he hE, Option.bind_some]
              · intro v h8 a8 i8 hR8
                refine must_bind hs hl hB hR8 T p3 p4 p5 p6 p7 _ _ _ (fun e => rfl) ?_ ?_
                · intro e k he hk
                  have hE : Gone r e (k : Int) e := gone_e hk
                  refine ⟨⟨7, ⟨#[]⟩, ⟨#[]⟩, v, 0⟩, k, hk, ?_⟩
                  simp only [name_G he hE, Option.bind_some]
                · intro h9 a9 i9 hR9
                  refine sim_bind (name_s hs hl hB hR9 T p3 p4 p5 p6 p7) _ _ (fun e => rfl) (fun e z k he hk => ⟨_, k, hk, rfl⟩) ?_
                  intro w ha aa ia hRa
                  exact .inl ⟨_, ha, aa, ia, rfl, hRa, rfl⟩
        · simp only [if_true]
          exact .inl ⟨_, h2, a2, i2, rfl, hR2, rfl⟩
    · simp only [if_true]
      refine sim_bind (mov_s hs hl hB hR1 T p3 p4 p5 p6 p7) _ _ (fun e => rfl) (fun e z k he hk => ⟨_, k, hk, rfl⟩) ?_
      intro w ha aa ia hRa
      exact .inl ⟨_, ha, aa, ia, rfl, hRa, rfl⟩
end
abbrev in0 : api_Instr := ⟨0, (⟨#[]⟩ : ByteArray), (⟨#[]⟩ : ByteArray), (⟨#[]⟩ : ByteArray), 0⟩
abbrev tt0 : api_Test := ⟨(⟨#[]⟩ : ByteArray), (⟨#[]⟩ : ByteArray), ([] : List api_Init), ([] : List (List api_Instr)), ([] : List api_Ref), 0, ([] : List api_Node)⟩
/-- A whole text: the program's answer and the document's. -/
theorem text_s {s : ByteArray} (hs : s.size ≤ 1048576) {r : weirref07_reader} (hl : r.L.length < 9223372036854775807) {bad : Option (Int × Nat)} (hB : r.Bad = flt s bad)
    {h : List api_Token} {a i : Nat} (hR : Rdr s r.L bad h a i) (T : api_Test) (p3 p4 : List litmus_place) (p5 : List (List litmus_place)) (p6 p7 : List litmus_place) :
    (∃ (x : api_Instr) (h' : List api_Token) (a' i' : Nat), litmus_Instruction_1.f s (a : Int) (plc s a).1 (plc s a).2 .nil h T p3 p4 p5 p6 p7 in0 = some (.inr (h', (a' : Int), (plc s a').1, (plc s a').2, .nil, x)) ∧ weirref07_reader__instr.f (Dc r (i : Int) ⟨0, 0, 0⟩) = some (x, (i' : Int), ⟨0, 0, 0⟩) ∧ r.Bad = ⟨0, 0, 0⟩ ∧ i' < r.L.length ∧ (gt r.L (i' : Int)).Kind = 0) ∨
    (∃ (l c k : Int) (x y : api_Instr) (i' : Nat) (F : weirref05_Fault), k ≠ 0 ∧ litmus_Instruction_1.f s (a : Int) (plc s a).1 (plc s a).2 .nil h T p3 p4 p5 p6 p7 in0 = some (.inl (.pos l c k, x)) ∧ weirref07_reader__instr.f (Dc r (i : Int) ⟨0, 0, 0⟩) = some (y, (i' : Int), F) ∧ i' < r.L.length ∧ (F = ⟨l, c, k⟩ ∨ (F = ⟨0, 0, 0⟩ ∧ weirref07_reader__wrong.f (Dc r (i' : Int) ⟨0, 0, 0⟩) = some ⟨l, c, k⟩ ∧ ((gt r.L (i' : Int)).Kind ≠ 0 ∨ r.Bad.Code ≠ 0)))) := by
  unfold litmus_Instruction_1.f
  rcases instr_s hs hl hB hR T p3 p4 p5 p6 p7 with ⟨x, h1, a1, i1, m1, m2, m3⟩ | ⟨l, c, k, z, i1, hk, hi, m1, m3⟩
  · rcases look_s hs hB m2 T p3 p4 p5 p6 p7 with ⟨t, a2, k1, k2, k3, k4⟩ | ⟨l, c, k, hk, k1, k2⟩
    · unfold lk at k1
      by_cases h0 : t.Kind = 0
      · refine .inl ⟨x, [t], a2, i1, ?_, m3, ?_, k3, by rw [k4]; exact h0⟩
        · rw [m1]; simp only [Option.bind_eq_bind, Option.bind_some]; rw [k1]; simp only [Option.bind_some]
          rw [if_neg (by rw [h0]; decide)]
        · obtain ⟨n, hn, ha, ⟨h', -⟩ | ⟨t', h', hk', -⟩ | ⟨t', h', hk', hb, -⟩⟩ := k2
          · cases h'
          · cases h'; exact absurd h0 hk'
          · rw [hB, hb]; rfl
      · obtain ⟨hi0, l, c, k, hk0, s1, s2⟩ := syn_s hs hl hB k2 T p3 p4 p5 p6 p7
        refine .inr ⟨l, c, k, x, x, i1, ⟨0, 0, 0⟩, hk0, ?_, m3, hi0, .inr ⟨rfl, s2, .inl (by rw [k4]; exact h0)⟩⟩
        rw [m1]; simp only [Option.bind_eq_bind, Option.bind_some]; rw [k1]; simp only [Option.bind_some]
        rw [if_pos (by rw [bne_iff_ne]; exact h0), s1]; rfl
    · obtain ⟨j, hj1, hj, -⟩ := id k2
      obtain rfl : i1 = j := by omega
      unfold lk at k1
      refine .inr ⟨l, c, k, x, x, i1, ⟨0, 0, 0⟩, hk, ?_, m3, hj, .inr ⟨rfl, wrong_g (e := ⟨l, c, k⟩) hk k2, .inr ?_⟩⟩
      · rw [m1]; simp only [Option.bind_eq_bind, Option.bind_some]; rw [k1]; rfl
      · obtain ⟨j, hj1, hj, hF | ⟨-, hb, -⟩⟩ := k2
        · exact absurd (congrArg weirref05_Fault.Code hF).symm hk
        · rw [hb]; exact hk
  · refine .inr ⟨l, c, k, in0, z, i1, ⟨l, c, k⟩, hk, ?_, m3, hi, .inl rfl⟩
    rw [m1]; rfl
theorem tks_start (s : ByteArray) : plc s 0 = (1, 1) := rfl
theorem law (s : ByteArray) : weirlaw07_LitmusInstrs.f s = some true := by
  unfold weirlaw07_LitmusInstrs.f litmus_Instruction.f litmus_read.f weirref07_Instruction.f
  by_cases hs : s.size ≤ 1048576
  · have hd : (decide ((s.size : Int) > 1048576)) = false := decide_eq_false (by omega)
    have hN : lexis_New.f s = some (s, 0, 1, 1, .nil) := by unfold lexis_New.f; rw [hd]; rfl
    rw [open_d s hs, hN, hd]
    simp only [Option.bind_eq_bind, Option.bind_some, Bool.false_eq_true, if_false]
    have hc0 : (((0 : Int) != 0) = true) = False := by decide
    simp only [hc0, if_false, if_true]
    obtain ⟨hl, hb⟩ := tks_b s hs
    have hR : Rdr s (tT s ++ [endT s (tB s)]) (tB s) [] 0 0 := ⟨s.size + 1, by omega, Nat.zero_le _, .inl ⟨rfl, rfl, rfl⟩⟩
    have key := text_s (r := ⟨tT s ++ [endT s (tB s)], flt s (tB s), 0, ⟨0, 0, 0⟩, tt0, [], [], [], [], 0⟩) hs (by simp only [List.length_append, List.length_singleton]; omega) rfl hR tt0 [] [] [] [] []
    rw [tks_start] at key
    rcases key with ⟨x, h', a', i', m1, m2, m3, m4, m5⟩ | ⟨l, c, k, x, y, i', F, hk, m1, m2, m3, m4⟩
    · have m1' : litmus_Instruction_1.f s 0 1 1 .nil [] tt0 [] [] [] [] [] in0 = _ := m1
      have m2' : weirref07_reader__instr.f (⟨tT s ++ [endT s (tB s)], flt s (tB s), 0, ⟨0, 0, 0⟩, tt0, [], [], [], [], 0⟩ : weirref07_reader) = _ := m2
      have m6 := dn (r := ⟨tT s ++ [endT s (tB s)], flt s (tB s), 0, ⟨0, 0, 0⟩, tt0, [], [], [], [], 0⟩) (F := ⟨0, 0, 0⟩) m4
      have m6' : weirref07_reader__next.f (⟨tT s ++ [endT s (tB s)], flt s (tB s), (i' : Int), ⟨0, 0, 0⟩, tt0, [], [], [], [], 0⟩ : weirref07_reader) = _ := m6
      have m3' : flt s (tB s) = ⟨0, 0, 0⟩ := m3
      rw [m1', m2']
      have hc1 : (((0 : Int) == 0) = true) = True := by decide
      simp only [Option.bind_some, hc1, if_true]
      rw [m6']
      simp only [Option.bind_some, m5, hc0, if_false, m3', Option.bind_some]
      have hn : litmus_read_1_1.f s (a' : Int) (plc s a').1 (plc s a').2 .nil h' tt0 [] [] [] [] [] = some () := rfl
      rw [hn]
      simp only [Option.bind_some]
      have hnil : (!(PErr.isNil PErr.nil)) = false := rfl
      simp only [hnil, Bool.false_eq_true, if_false, Option.bind_some, decide_true, if_true]
      rfl
    · have m1' : litmus_Instruction_1.f s 0 1 1 .nil [] tt0 [] [] [] [] [] in0 = _ := m1
      have m2' : weirref07_reader__instr.f (⟨tT s ++ [endT s (tB s)], flt s (tB s), 0, ⟨0, 0, 0⟩, tt0, [], [], [], [], 0⟩ : weirref07_reader) = _ := m2
      rw [m1', m2']
      simp only [Option.bind_some]
      have hp : litmus_read_1.f (.pos l c k) = some (.pos l c k) := rfl
      rw [hp]
      have hnil : (!(PErr.isNil (PErr.pos l c k))) = true := rfl
      simp only [Option.bind_some, hnil, if_true]
      have hsn : weirlaw05_Seen.f (.pos l c k) = some ⟨l, c, k⟩ := rfl
      have hck : ((k != 0) = true) = True := by simpa using hk
      rcases m4 with rfl | ⟨rfl, w, hor⟩
      · have hc : ((k == 0) = true) = False := by simpa using hk
        simp only [hc, if_false, Option.bind_some, hck, if_true, decide_true, hsn]
      · have hc1 : (((0 : Int) == 0) = true) = True := by decide
        have m6 := dn (r := ⟨tT s ++ [endT s (tB s)], flt s (tB s), 0, ⟨0, 0, 0⟩, tt0, [], [], [], [], 0⟩) (F := ⟨0, 0, 0⟩) m3
        have m6' : weirref07_reader__next.f (⟨tT s ++ [endT s (tB s)], flt s (tB s), (i' : Int), ⟨0, 0, 0⟩, tt0, [], [], [], [], 0⟩ : weirref07_reader) = _ := m6
        have w' : weirref07_reader__wrong.f (⟨tT s ++ [endT s (tB s)], flt s (tB s), (i' : Int), ⟨0, 0, 0⟩, tt0, [], [], [], [], 0⟩ : weirref07_reader) = _ := w
        simp only [hc1, if_true]
        rw [m6', w']
        simp only [Option.bind_some]
        have hif : ∀ (P Q : Prop) [Decidable P] [Decidable Q], (P ∨ Q) → (if P then (some (⟨l, c, k⟩ : weirref05_Fault)) else if Q then some ⟨l, c, k⟩ else some ⟨0, 0, 0⟩) = some ⟨l, c, k⟩ := by
          intro P Q _ _ h
          by_cases hP : P
          · rw [if_pos hP]
          · rw [if_neg hP, if_pos (h.resolve_left hP)]
        have hor' : ((gt (tT s ++ [endT s (tB s)]) (i' : Int)).Kind != 0) = true ∨ ((flt s (tB s)).Code != 0) = true := by
          rcases hor with h | h
          · exact .inl (by rw [bne_iff_ne]; exact h)
          · exact .inr (by rw [bne_iff_ne]; exact h)
        rw [hif _ _ hor']
        simp only [Option.bind_some, hck, if_true, decide_true, hsn]
  · have hd : (decide ((s.size : Int) > 1048576)) = true := decide_eq_true (by omega)
    have ho : weirref07_open.f s = some (false, [], default, default, default, default, default, [], [], default, [], [], [], [], default, (⟨-1, 0, 1⟩ : weirref05_Fault)) := by
      unfold weirref07_open.f; rw [if_pos hd]
    rw [ho, hd]
    rfl
theorem law0 (s : ByteArray) (_ : s.size ≤ bnd) : weirlaw07_LitmusInstrs.f s = some true := law s
end Go.Proofs.YtkhcbamlhckilaaGreatDoor.K
