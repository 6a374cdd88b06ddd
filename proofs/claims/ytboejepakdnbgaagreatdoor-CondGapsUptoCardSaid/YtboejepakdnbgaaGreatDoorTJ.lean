/- CondGaps: wide blanks, brackets around, tokens before others. -/
import Derived.Test.YtboejepakdnbgaaGreatDoorTI
set_option linter.unusedVariables false
set_option linter.unusedSectionVars false
set_option linter.unusedSimpArgs false
set_option maxRecDepth 100000
namespace Go.Proofs.YtboejepakdnbgaaGreatDoor.K.C
open Go

/-! ### Blanks of any kind -/
theorem Lx.spW {W w u : ByteArray} {x y : List Tk} (hB : Blk W) (h1 : 1 ≤ W.size) (hf : Fol (bA W 0)) (h : Lx w x) (hu : Lx u y) : Lx (w ++ W ++ u) (x ++ y) where
  hd := h.hd.app.app
  ne := by have := h.ne; simp [this]
  run := by
    intro s a hr hF
    have hr1 := hr.left.left
    have hr2 := hr.left.right
    have hr3 := hr.right
    rw [sz, ← Nat.add_assoc, sz, ← Nat.add_assoc] at hF ⊢
    rw [sz, ← Nat.add_assoc] at hr3
    have e0 : bA s (a + w.size) = bA W 0 := hr2.2 0 (by omega)
    exact Run.app (h.run s a hr1 (by rw [e0]; exact hf)) (hB s _ hr2 (hu.hd.noB hr3)) (hu.run s _ hr3 hF)
namespace Cd
def textW (W : ByteArray) : Cd → ByteArray
  | .tru => (⟨#[116, 114, 117, 101]⟩ : ByteArray)
  | .eq r v => refB r ++ (⟨#[61]⟩ : ByteArray) ++ itoaB v
  | .not a => (⟨#[126]⟩ : ByteArray) ++ pt (a.textW W) (bk 3 a false)
  | .and a b => pt (a.textW W) (bk 4 a false) ++ W ++ lng 0 ++ W ++ pt (b.textW W) (bk 4 b true)
  | .or a b => pt (a.textW W) (bk 5 a false) ++ W ++ lng 1 ++ W ++ pt (b.textW W) (bk 5 b true)
end Cd
theorem Lx.textW {W : ByteArray} (hB : Blk W) (h1 : 1 ≤ W.size) (hf : Fol (bA W 0)) : ∀ t : Cd, t.wf = true → t.vals → Lx (t.textW W) t.toks := by
  intro t
  induction t with
  | tru => intro _ _; exact Lx.text .tru rfl trivial
  | eq r v =>
    intro h hv
    exact Lx.text (.eq r v) h hv
  | not a ih =>
    intro h hv
    exact ((ih h hv).part (Cd.bk 3 a false)).sig (c := 126) (.inr (.inr (.inr (.inr (.inl rfl)))))
  | and a b iha ihb =>
    intro h hv
    simp only [Cd.wf, Bool.and_eq_true] at h
    have := Lx.spW hB h1 hf (Lx.spW hB h1 hf ((iha h.1 hv.1).part (Cd.bk 4 a false)) (Lx.two 0 (by decide))) ((ihb h.2 hv.2).part (Cd.bk 4 b true))
    simp only [Cd.textW, Cd.toks]
    simp only [ByteArray.append_assoc, List.append_assoc] at this ⊢
    exact this
  | or a b iha ihb =>
    intro h hv
    simp only [Cd.wf, Bool.and_eq_true] at h
    have := Lx.spW hB h1 hf (Lx.spW hB h1 hf ((iha h.1 hv.1).part (Cd.bk 5 a false)) (Lx.two 1 (by decide))) ((ihb h.2 hv.2).part (Cd.bk 5 b true))
    simp only [Cd.textW, Cd.toks]
    simp only [ByteArray.append_assoc, List.append_assoc] at this ⊢
    exact this
def gW : ByteArray := ⟨#[32, 40, 42, 32, 126, 32, 42, 41, 10]⟩
theorem blE_s (s : ByteArray) (n k : Nat) : blE s (n + 1) k = if k < s.size then
      if isB (bA s k) = true then blE s n (k + 1)
      else if bA s k = 40 ∧ bA s (k + 1) = 42 then (match cmE s s.size (k + 2) 1 with | some e => blE s n e | none => (false, k))
      else (true, k)
    else (true, k) := rfl
theorem cmE_s (s : ByteArray) (n k d : Nat) : cmE s (n + 1) k d = if k + 1 < s.size then
      if bA s k = 40 ∧ bA s (k + 1) = 42 then cmE s n (k + 2) (d + 1)
      else if bA s k = 42 ∧ bA s (k + 1) = 41 then (if d = 1 then some (k + 2) else cmE s n (k + 2) (d - 1))
      else cmE s n (k + 1) d
    else none := rfl
theorem blk_gap : Blk gW := by
  intro s a h hn
  have hs := h.1
  rw [show gW.size = 9 from rfl] at hs hn ⊢
  have hb : ∀ j, j < 9 → bA s (a + j) = bA gW j := fun j hj => h.2 j hj
  have b0 : bA s a = 32 := (hb 0 (by decide)).trans (by decide)
  have b1 : bA s (a + 1) = 40 := (hb 1 (by decide)).trans (by decide)
  have b2 : bA s (a + 2) = 42 := (hb 2 (by decide)).trans (by decide)
  have b3 : bA s (a + 3) = 32 := (hb 3 (by decide)).trans (by decide)
  have b4 : bA s (a + 4) = 126 := (hb 4 (by decide)).trans (by decide)
  have b5 : bA s (a + 5) = 32 := (hb 5 (by decide)).trans (by decide)
  have b6 : bA s (a + 6) = 42 := (hb 6 (by decide)).trans (by decide)
  have b7 : bA s (a + 7) = 41 := (hb 7 (by decide)).trans (by decide)
  have b8 : bA s (a + 8) = 10 := (hb 8 (by decide)).trans (by decide)
  obtain ⟨n, hn2⟩ : ∃ n, s.size = n + 4 := ⟨s.size - 4, by omega⟩
  have hc : cmE s s.size (a + 3) 1 = some (a + 8) := by
    rw [hn2]
    rw [cmE_s, if_pos (by omega), b3, if_neg (by omega), if_neg (by omega)]
    rw [show a + 3 + 1 = a + 4 from rfl, cmE_s, if_pos (by omega), b4, if_neg (by omega), if_neg (by omega)]
    rw [show a + 4 + 1 = a + 5 from rfl, cmE_s, if_pos (by omega), b5, if_neg (by omega), if_neg (by omega)]
    rw [show a + 5 + 1 = a + 6 from rfl, cmE_s, if_pos (by omega), b6, if_neg (by rw [b7]; decide), if_pos ⟨rfl, b7⟩, if_pos rfl]
  have key : blE s (n + 4) a = (true, a + 9) := by
    rw [blE_s, if_pos (by omega), b0, if_pos (by decide)]
    rw [blE_s, if_pos (by omega), b1, if_neg (by decide), if_pos ⟨rfl, b2⟩, show a + 1 + 2 = a + 3 from rfl, hc]
    simp only
    rw [blE_s, if_pos (by omega), b8, if_pos (by decide)]
    exact blE_stop hn _
  rw [hn2]; exact key
theorem textW_size : ∀ t : Cd, t.wf = true → t.vals → (t.textW gW).size ≤ 240 * t.n := by
  have z9 : gW.size = 9 := rfl
  have zl : (lng 0).size = 2 ∧ (lng 1).size = 2 := ⟨rfl, rfl⟩
  intro t
  induction t with
  | tru => intro _ _; decide
  | eq r v =>
    intro h hv
    simp only [Cd.wf, Bool.and_eq_true, decide_eq_true_eq] at h
    have := ref_size h.1 h.2
    have := itoa_size hv
    simp only [Cd.textW, Cd.n, sz, show (⟨#[61]⟩ : ByteArray).size = 1 from rfl]; omega
  | not a ih =>
    intro h hv
    have := ih h hv
    have := pt_size (a.textW gW) (Cd.bk 3 a false)
    simp only [Cd.textW, Cd.n, sz, show (⟨#[126]⟩ : ByteArray).size = 1 from rfl]; omega
  | and a b iha ihb =>
    intro h hv
    simp only [Cd.wf, Bool.and_eq_true] at h
    have := iha h.1 hv.1
    have := ihb h.2 hv.2
    have := pt_size (a.textW gW) (Cd.bk 4 a false)
    have := pt_size (b.textW gW) (Cd.bk 4 b true)
    simp only [Cd.textW, Cd.n, sz]; omega
  | or a b iha ihb =>
    intro h hv
    simp only [Cd.wf, Bool.and_eq_true] at h
    have := iha h.1 hv.1
    have := ihb h.2 hv.2
    have := pt_size (a.textW gW) (Cd.bk 5 a false)
    have := pt_size (b.textW gW) (Cd.bk 5 b true)
    simp only [Cd.textW, Cd.n, sz]; omega
/-! ### The wide text is the text with other blanks -/
def g8 : List UInt8 := [40, 42, 32, 126, 32, 42, 41, 10]
def wd (l : List UInt8) : List UInt8 := l.flatMap fun b => if b = 32 then b :: g8 else [b]
theorem wd_app (x y : List UInt8) : wd (x ++ y) = wd x ++ wd y := List.flatMap_append
theorem wd_no : ∀ {l : List UInt8}, (∀ b ∈ l, b ≠ 32) → wd l = l
  | [], _ => rfl
  | b :: l, h => by
    have h1 := h b (List.mem_cons_self ..)
    have h2 := wd_no (l := l) (fun x hx => h x (List.mem_cons_of_mem _ hx))
    unfold wd at h2 ⊢
    rw [List.flatMap_cons, h2, if_neg h1]; rfl
def dl (s : ByteArray) : List UInt8 := s.data.toList
theorem dl_app (s t : ByteArray) : dl (s ++ t) = dl s ++ dl t := by unfold dl; rw [ByteArray.data_append, Array.toList_append]
theorem not32 {w : ByteArray} (h : ∀ j, j < w.size → bA w j ≠ 32) : ∀ b ∈ dl w, b ≠ 32 := by
  intro b hb e
  obtain ⟨j, hj, hx⟩ := List.mem_iff_getElem.1 hb
  have hj2 : j < w.size := by rw [K.size_l]; exact hj
  have hj3 : j < w.data.toList.length := hj
  have := h j hj2
  rw [bA_l, List.getD_eq_getElem?_getD, List.getElem?_eq_getElem hj3] at this
  simp only [Option.getD_some] at this
  have hx' : w.data.toList[j] = b := hx
  rw [hx', e] at this
  exact this rfl
theorem name_32 {w : ByteArray} (h : isName w = true) : ∀ b ∈ dl w, b ≠ 32 := by
  obtain ⟨h1, h2, h3, h4⟩ := name_facts h
  refine not32 fun j hj e => ?_
  by_cases h0 : j = 0
  · subst h0
    rw [e] at h3
    exact absurd h3 (by decide)
  · have := h4 j (by omega) hj
    unfold K.onB at this
    rw [e] at this
    simp [show K.isL 32 = false from by decide, show K.isD 32 = false from by decide] at this
theorem itoa_32 {v : Int} (h : -9223372036854775808 ≤ v ∧ v ≤ 9223372036854775807) : ∀ b ∈ dl (itoaB v), b ≠ 32 := by
  obtain ⟨ds, h1, h2, h3, h4, h5⟩ := itoa_form h
  intro b hb e
  unfold dl at hb
  rw [h5] at hb
  rcases List.mem_append.1 hb with hb | hb
  · split at hb
    · rw [List.mem_singleton.1 hb] at e; exact absurd e (by decide)
    · simp at hb
  · have := h1 b hb
    unfold isDg' at this
    rw [e] at this
    exact absurd this (by decide)
theorem wd_pt {s t : ByteArray} (b : Bool) (h : wd (dl s) = dl t) : wd (dl (pt s b)) = dl (pt t b) := by
  unfold pt
  cases b
  · exact h
  · simp only [if_true, dl_app, wd_app, h]; rfl
theorem wd_text : ∀ t : Cd, t.wf = true → t.vals → wd (dl t.text) = dl (t.textW gW) := by
  intro t
  induction t with
  | tru => intro _ _; decide
  | eq r v =>
    intro h hv
    simp only [Cd.wf, Bool.and_eq_true, decide_eq_true_eq] at h
    refine wd_no ?_
    simp only [Cd.text, dl_app]
    intro b hb
    rcases List.mem_append.1 hb with hb | hb
    · rcases List.mem_append.1 hb with hb | hb
      · unfold refB at hb
        split at hb
        · exact name_32 h.2 b hb
        · rw [dl_app, dl_app] at hb
          rcases List.mem_append.1 hb with hb | hb
          · rcases List.mem_append.1 hb with hb | hb
            · exact itoa_32 (by omega) b hb
            · rw [List.mem_singleton.1 hb]; decide
          · exact name_32 h.2 b hb
      · rw [List.mem_singleton.1 hb]; decide
    · exact itoa_32 hv b hb
  | not a ih =>
    intro h hv
    simp only [Cd.text, Cd.textW, dl_app, wd_app, wd_pt _ (ih h hv)]; rfl
  | and a b iha ihb =>
    intro h hv
    simp only [Cd.wf, Bool.and_eq_true] at h
    simp only [Cd.text, Cd.textW, dl_app, wd_app, wd_pt _ (iha h.1 hv.1), wd_pt _ (ihb h.2 hv.2)]
    rw [show wd (dl (⟨#[32, 47, 92, 32]⟩ : ByteArray)) = dl gW ++ (dl (lng 0) ++ dl gW) from by decide]
    simp only [List.append_assoc]
  | or a b iha ihb =>
    intro h hv
    simp only [Cd.wf, Bool.and_eq_true] at h
    simp only [Cd.text, Cd.textW, dl_app, wd_app, wd_pt _ (iha h.1 hv.1), wd_pt _ (ihb h.2 hv.2)]
    rw [show wd (dl (⟨#[32, 92, 47, 32]⟩ : ByteArray)) = dl gW ++ (dl (lng 1) ++ dl gW) from by decide]
    simp only [List.append_assoc]
def ints (l : List UInt8) : List Int := l.map fun b => (b.toNat : Int)
theorem wide_l {t : ByteArray} (ht : t.size ≤ 1000000) : ∀ (m i : Nat) (acc : List Int), i + m = t.size → acc.length + 9 * m ≤ 100000000 → weirlaw06_CondGaps.l0 t acc (i : Int) = some (acc ++ ints (wd ((dl t).drop i))) := by
  intro m
  induction m with
  | zero =>
    intro i acc hi hac
    rw [weirlaw06_CondGaps.l0, if_neg (nt (decide_eq_false (by omega)))]
    rw [List.drop_of_length_le (by show t.data.toList.length ≤ i; rw [← K.size_l]; omega)]
    simp [wd, ints]
  | succ m ih =>
    intro i acc hi hac
    have hlt : i < t.size := by omega
    have hlt2 : i < (dl t).length := by show i < t.data.toList.length; rw [← K.size_l]; exact hlt
    have g : (0 : Int) ≤ (i : Int) ∧ (i : Int) < (t.size : Int) := by omega
    have hb : byt t (i : Int) = (((dl t)[i]).toNat : Int) := byt_l t hlt2
    rw [weirlaw06_CondGaps.l0, if_pos (decide_eq_true g.2), if_pos g, if_pos (by simp only [List.length_singleton]; omega), if_pos g, hb, w1 (by omega)]
    rw [List.drop_eq_getElem_cons hlt2]
    generalize (dl t)[i] = b
    by_cases h32 : b = 32
    · subst h32
      rw [if_pos (by decide), if_pos (by
        rw [List.length_append, List.length_singleton, strBytes_len, show (⟨#[40,42,32,126,32,42,41,10]⟩ : ByteArray).size = 8 from rfl]; omega)]
      rw [ih (i + 1) _ (by omega) (by rw [List.length_append, List.length_append, List.length_singleton, strBytes_len, show (⟨#[40,42,32,126,32,42,41,10]⟩ : ByteArray).size = 8 from rfl]; omega)]
      have e : strBytes (⟨#[40,42,32,126,32,42,41,10]⟩ : ByteArray) = ints g8 := by decide
      rw [e]
      unfold wd ints
      rw [List.flatMap_cons, if_pos rfl]
      simp only [List.map_append, List.map_cons, List.append_assoc, List.cons_append, List.nil_append]
    · rw [if_neg (by
        intro h
        have := beq_iff_eq.1 h
        exact h32 (UInt8.toNat_inj.1 (by show b.toNat = 32; omega)))]
      rw [ih (i + 1) _ (by omega) (by rw [List.length_append, List.length_singleton]; omega)]
      unfold wd ints
      rw [List.flatMap_cons, if_neg h32]
      simp only [List.map_append, List.map_cons, List.map_nil, List.append_assoc, List.cons_append, List.nil_append]
theorem ofBytes_ints (l : List UInt8) : ofBytes (ints l) = ⟨l.toArray⟩ := by
  unfold ofBytes ints
  congr 2
  rw [List.map_map]
  conv => rhs; rw [← List.map_id l]
  refine List.map_congr_left fun b _ => ?_
  show UInt8.ofNat ((b.toNat : Int)).toNat = b
  rw [Int.toNat_natCast, UInt8.ofNat_toNat]
theorem wide {t : Cd} (h : t.wf = true) (hv : t.vals) (hn : t.n ≤ 1024) : ∃ l, weirlaw06_CondGaps.l0 t.text [] 0 = some l ∧ ofBytes l = t.textW gW := by
  have hs := text_size t h hv
  have := wide_l (t := t.text) (by omega) t.text.size 0 [] (by omega) (by simp only [List.length_nil]; omega)
  refine ⟨_, this, ?_⟩
  rw [List.nil_append, List.drop_zero, wd_text t h hv, ofBytes_ints]
  exact ba_ext (by unfold dl; simp)
/-! ### Ends -/
theorem tks_fin {s : ByteArray} {a : Nat} (hb : blE s s.size a = (true, s.size)) (n : Nat) : tks s (n + 1) a = ([], none) := by
  have e1 : nxE s a = .inr (⟨0, (⟨#[]⟩ : ByteArray), 0, (plc s s.size).1, (plc s s.size).2, (s.size : Int), (s.size : Int)⟩, s.size) := by
    unfold nxE blS blA
    rw [hb, if_neg (by simp), if_pos rfl]
  rw [tks_s, e1]; rfl
/-- A text and a tab behind it. -/
theorem toks_tab {w : ByteArray} {x : List Tk} (h : Lx w x) : Same (tT (w ++ (⟨#[9]⟩ : ByteArray))) x ∧ tB (w ++ (⟨#[9]⟩ : ByteArray)) = none := by
  have hz : (w ++ (⟨#[9]⟩ : ByteArray)).size = w.size + 1 := by rw [sz]; rfl
  have hrd : Rd (w ++ (⟨#[9]⟩ : ByteArray)) 0 w := (Rd.self (w ++ (⟨#[9]⟩ : ByteArray))).left
  have h9 : bA (w ++ (⟨#[9]⟩ : ByteArray)) (0 + w.size) = 9 := by
    rw [Nat.zero_add, bA_app, if_neg (by omega), Nat.sub_self]; decide
  generalize w ++ (⟨#[9]⟩ : ByteArray) = s at hz hrd h9
  have hr := h.run s 0 hrd (by rw [h9]; exact .inr (.inr (.inr (.inr (.inr (.inr rfl))))))
  have hc := hr.count
  rw [Nat.zero_add] at hr hc h9
  rw [Nat.zero_add] at hc
  obtain ⟨L, h1, h2⟩ := tks_run hr 0 (s.size - x.length + 1) (blE_stop (h.hd.noB hrd) _)
  have hend : blE s s.size w.size = (true, s.size) := by
    have hst : NoB s (w.size + 1) := by
      refine ⟨?_, ?_⟩
      · rw [bA_end (by omega)]; rfl
      · rw [bA_end (by omega)]; rintro ⟨h, -⟩; cases h
    have : ∀ n, blE s (n + 1) w.size = (true, w.size + 1) := by
      intro n
      rw [blE_s, if_pos (by omega), h9, if_pos (by decide)]
      exact blE_stop hst n
    rw [hz]
    exact this w.size
  rw [tks_fin hend, show s.size - x.length + 1 + x.length = s.size + 1 by omega] at h2
  unfold tT tB
  rw [h2]
  simp only [List.append_nil]
  exact ⟨h1, trivial⟩
theorem toks_L {w : ByteArray} {x : List Tk} (h : Lx w x) : Same (tT w) x ∧ tB w = none := by
  have hr := h.run w 0 (Rd.self _) (.inl (bA_end (by omega)))
  have hc := hr.count
  rw [Nat.zero_add] at hr hc
  rw [Nat.zero_add] at hc
  obtain ⟨L, h1, h2⟩ := tks_run hr 0 (w.size - x.length + 1) (blE_stop (h.hd.noB (Rd.self _)) _)
  rw [tks_end, show w.size - x.length + 1 + x.length = w.size + 1 by omega] at h2
  unfold tT tB
  rw [h2]
  simp only [List.append_nil]
  exact ⟨h1, trivial⟩
theorem parse_wide {t : Cd} (h : t.wf = true) (hv : t.vals) (hn : t.n ≤ 1024) (hd : t.dep ≤ 64) : cond_Parse.f (t.textW gW ++ (⟨#[9]⟩ : ByteArray)) = some (t.nodes 0, .nil) := by
  have hs := textW_size t h hv
  obtain ⟨hS, hB⟩ := toks_tab (Lx.textW blk_gap (by decide) (.inr (.inl (by decide))) t h hv)
  refine parse_gr (by rw [sz]; have : (⟨#[9]⟩ : ByteArray).size = 1 := rfl; omega) hS hB (fun L hI hk => ?_) hd hn
  have hg := toks_gr t 0 h hv hI (by rw [Nat.zero_add]; exact ⟨hk _, fun _ => hk _⟩)
  rw [Nat.zero_add] at hg
  exact up2 hg (lvl_le t) (hk _)
/-! ### Brackets around -/
theorem Lx.sigsp {c : UInt8} {w : ByteArray} {x : List Tk} (hc : Sg c) (h : Lx w x) : Lx ((⟨#[c]⟩ : ByteArray) ++ (⟨#[32]⟩ : ByteArray) ++ w) (⟨4, (⟨#[c]⟩ : ByteArray), 0⟩ :: x) where
  hd := by
    have e0 : bA ((⟨#[c]⟩ : ByteArray) ++ (⟨#[32]⟩ : ByteArray) ++ w) 0 = bA (⟨#[c]⟩ : ByteArray) 0 := by rw [ByteArray.append_assoc, bA_app, if_pos (by rw [sig_z]; decide)]
    have e1 : bA ((⟨#[c]⟩ : ByteArray) ++ (⟨#[32]⟩ : ByteArray) ++ w) 1 = 32 := by
      rw [ByteArray.append_assoc, bA_app, if_neg (by rw [sig_z]; decide), sig_z, bA_app, if_pos (by decide)]; decide
    refine ⟨by rw [sz, sz, sig_z]; omega, by rw [e0]; exact (sig_hd hc).1, by rw [e0]; exact (sig_hd hc).2, fun _ => ⟨by rw [sz, sz, sig_z, sig_z]; omega, by rw [e1]; decide⟩⟩
  ne := by simp
  run := by
    intro s a hr hF
    have h1 := hr.left.left
    have h2 := hr.left.right
    have h4 := hr.right
    rw [sz, sz, sig_z, sig_z, ← Nat.add_assoc, ← Nat.add_assoc] at hF ⊢
    rw [sig_z] at h2
    rw [sz, sig_z, sig_z] at h4
    rw [← Nat.add_assoc] at h4
    have hz := h1.1
    rw [sig_z] at hz
    have h3 := h.run s _ h4 hF
    have hb : blE s s.size (a + 1) = (true, a + 1 + 1) := blk_one s _ h2 (h.hd.noB h4)
    cases x with
    | nil => exact absurd rfl h.ne
    | cons u r => exact .cons (by omega) (sig_lex hc h1) (show (4 : Int) ≠ 0 by decide) (by omega) hb h3
def cnt (l : List UInt8) : Nat := l.countP fun b => b == 40 || b == 126
theorem cnt_app (x y : List UInt8) : cnt (x ++ y) = cnt x + cnt y := List.countP_append
theorem cnt_pt (s : ByteArray) (b : Bool) : cnt (dl (pt s b)) = cnt (dl s) + (if b then 1 else 0) := by
  unfold pt
  cases b
  · rfl
  · simp only [if_true, dl_app, cnt_app, show cnt (dl (⟨#[40]⟩ : ByteArray)) = 1 from by decide, show cnt (dl (⟨#[41]⟩ : ByteArray)) = 0 from by decide]; omega
theorem dep_cnt : ∀ t : Cd, t.dep ≤ cnt (dl t.text) := by
  intro t
  induction t with
  | tru => simp [Cd.dep]
  | eq r v => simp [Cd.dep]
  | not a ih => simp only [Cd.dep, Cd.text, dl_app, cnt_app, cnt_pt, show cnt (dl (⟨#[126]⟩ : ByteArray)) = 1 from by decide]; omega
  | and a b iha ihb => simp only [Cd.dep, Cd.text, dl_app, cnt_app, cnt_pt]; omega
  | or a b iha ihb => simp only [Cd.dep, Cd.text, dl_app, cnt_app, cnt_pt]; omega
theorem deep_l {t : ByteArray} (ht : t.size ≤ 1000000) : ∀ (m i k : Nat), i + m = t.size → k ≤ i → weirlaw06_deep.l0 t (k : Int) (i : Int) = some ((k + cnt ((dl t).drop i) : Nat) : Int) := by
  intro m
  induction m with
  | zero =>
    intro i k hi hk
    rw [weirlaw06_deep.l0, if_neg (nt (decide_eq_false (by omega)))]
    rw [List.drop_of_length_le (by show t.data.toList.length ≤ i; rw [← K.size_l]; omega)]
    simp [cnt]
  | succ m ih =>
    intro i k hi hk
    have hlt : i < t.size := by omega
    have hlt2 : i < (dl t).length := by show i < t.data.toList.length; rw [← K.size_l]; exact hlt
    have g : (0 : Int) ≤ (i : Int) ∧ (i : Int) < (t.size : Int) := by omega
    have hb : byt t (i : Int) = (((dl t)[i]).toNat : Int) := byt_l t hlt2
    rw [weirlaw06_deep.l0, if_pos (decide_eq_true g.2), if_pos g, hb, w1 (by omega), w1 (by omega), if_pos g]
    rw [List.drop_eq_getElem_cons hlt2]
    generalize (dl t)[i] = b
    have hu : ∀ c : UInt8, (((b.toNat : Int) == (c.toNat : Int)) = true) ↔ b = c := fun c => by
      rw [beq_iff_eq]
      exact ⟨fun h => UInt8.toNat_inj.1 (by omega), fun h => by rw [h]⟩
    have h40 := hu 40
    have h126 := hu 126
    rw [show ((40 : UInt8).toNat : Int) = 40 from rfl] at h40
    rw [show ((126 : UInt8).toNat : Int) = 126 from rfl] at h126
    unfold cnt at ih ⊢
    rw [List.countP_cons]
    by_cases e1 : b = 40
    · rw [if_pos (h40.2 e1), ih (i + 1) (k + 1) (by omega) (by omega), e1]
      simp; omega
    · rw [if_neg (fun h => e1 (h40.1 h))]
      by_cases e2 : b = 126
      · rw [if_pos (h126.2 e2), ih (i + 1) (k + 1) (by omega) (by omega), e2]
        simp; omega
      · rw [if_neg (fun h => e2 (h126.1 h))]
        show weirlaw06_deep.l0 t (k : Int) ((i + 1 : Nat) : Int) = _
        rw [ih (i + 1) k (by omega) (by omega)]
        simp [e1, e2]
theorem deep_p {t : ByteArray} (ht : t.size ≤ 1000000) : weirlaw06_deep.f t = some ((cnt (dl t) : Nat) : Int) := by
  unfold weirlaw06_deep.f
  have := deep_l ht t.size 0 0 (by omega) (by omega)
  rw [show (((0 : Nat)) : Int) = 0 from rfl] at this
  rw [this]
  simp
theorem parse_br {t : Cd} (h : t.wf = true) (hv : t.vals) (hn : t.n ≤ 1024) (hd : t.dep < 60) : cond_Parse.f ((⟨#[40, 32, 40]⟩ : ByteArray) ++ t.text ++ (⟨#[41, 32, 41]⟩ : ByteArray)) = some (t.nodes 0, .nil) := by
  have hs := text_size t h hv
  have o41 := Lx.one (c := 41) (.inr (.inl rfl)) (by decide)
  have hx := (((Lx.text t h hv).app o41 (.inr (.inr (.inl rfl)))).sig (c := 40) (.inl rfl)).sigsp (c := 40) (.inl rfl) |>.sp o41
  have e : ((⟨#[40, 32, 40]⟩ : ByteArray) ++ t.text ++ (⟨#[41, 32, 41]⟩ : ByteArray)) = (⟨#[40]⟩ : ByteArray) ++ (⟨#[32]⟩ : ByteArray) ++ ((⟨#[40]⟩ : ByteArray) ++ (t.text ++ (⟨#[41]⟩ : ByteArray))) ++ (⟨#[32]⟩ : ByteArray) ++ (⟨#[41]⟩ : ByteArray) := by
    rw [show (⟨#[40, 32, 40]⟩ : ByteArray) = (⟨#[40]⟩ : ByteArray) ++ (⟨#[32]⟩ : ByteArray) ++ (⟨#[40]⟩ : ByteArray) from by decide, show (⟨#[41, 32, 41]⟩ : ByteArray) = (⟨#[41]⟩ : ByteArray) ++ (⟨#[32]⟩ : ByteArray) ++ (⟨#[41]⟩ : ByteArray) from by decide]
    simp only [ByteArray.append_assoc]
  rw [e]
  obtain ⟨hS, hB⟩ := toks_L hx
  refine parse_gr (by rw [← e, sz, sz]; have : (⟨#[40, 32, 40]⟩ : ByteArray).size = 3 ∧ (⟨#[41, 32, 41]⟩ : ByteArray).size = 3 := ⟨rfl, rfl⟩; omega) hS hB (fun L hI hk => ?_) (e := t.dep + 1 + 1) (by omega) hn
  obtain ⟨⟨h0, -⟩, hI⟩ := hI
  obtain ⟨⟨⟨h1, -⟩, hI⟩, hJ⟩ := hI.app
  obtain ⟨hI, ⟨h2, -⟩, -⟩ := hI.app
  obtain ⟨⟨h3, -⟩, -⟩ := hJ
  have hl : ∀ m : Nat, m + t.toks.length = t.toks.length + m := fun m => by omega
  have hg := toks_gr t (0 + 1 + 1) h hv hI ⟨sg_x h2 (by decide), fun _ => sg_x h2 (by decide)⟩
  have g1 := Gr.par h1 (up2 hg (lvl_le t) (sg_x h2 (by decide))) h2
  have e3 : 0 + 1 + (⟨4, (⟨#[40]⟩ : ByteArray), 0⟩ :: (t.toks ++ [(⟨4, (⟨#[41]⟩ : ByteArray), 0⟩ : Tk)])).length = 0 + 1 + 1 + t.toks.length + 1 := by simp only [List.length_cons, List.length_append, List.length_nil]; omega
  rw [e3] at h3
  have g2 := Gr.par h0 (.or0 (.and0 g1) (sg_x h3 (by decide))) h3
  have e4 : (⟨4, (⟨#[40]⟩ : ByteArray), 0⟩ :: (⟨4, (⟨#[40]⟩ : ByteArray), 0⟩ :: (t.toks ++ [(⟨4, (⟨#[41]⟩ : ByteArray), 0⟩ : Tk)]) : List Tk) ++ [(⟨4, (⟨#[41]⟩ : ByteArray), 0⟩ : Tk)] : List Tk).length = 0 + 1 + 1 + t.toks.length + 1 + 1 := by simp only [List.length_cons, List.length_append, List.length_nil]; omega
  rw [e4] at hk ⊢
  exact .or0 (.and0 g2) (hk _)
/-! ### Tokens before others -/
theorem taken_T {t : Cd} (h : t.wf = true) (hv : t.vals) (hn : t.n ≤ 1024) (hd : t.dep ≤ 64) (r : List api_Token) (hr : r.length ≤ 67108864) : weirlaw06_taken.f t.text (t.nodes 0) r = some true := by
  have hs := text_size t h hv
  obtain ⟨hS, hB⟩ := toks_T h hv
  have hlen : (tT t.text).length = t.toks.length := by have := congrArg List.length hS; simpa using this
  obtain ⟨hl, -⟩ := tks_b t.text (by omega)
  unfold weirlaw06_taken.f weirlaw06_tokens.f
  rw [all_p t.text (by omega), hB]
  simp only [Option.bind_eq_bind, Option.bind_some]
  rw [if_pos (by simp only [List.length_nil]; omega)]
  simp only [Option.bind_some, nilN, Bool.not_true, Bool.false_eq_true, if_false, List.nil_append]
  rw [if_pos (by rw [List.length_singleton]; omega), if_pos (by rw [List.length_append, List.length_singleton]; omega)]
  generalize hE : (⟨4, (⟨#[41]⟩ : ByteArray), 0, 0, 0, 0, 0⟩ : api_Token) = en
  have hI : Is (tT t.text ++ [en] ++ r) 0 t.toks := by
    have := same_is t.toks [] (tT t.text) ([en] ++ r) hS
    rw [List.append_assoc]; exact this
  have hLl : (tT t.text ++ [en] ++ r).length = t.toks.length + 1 + r.length := by rw [List.length_append, List.length_append, List.length_singleton, hlen]
  have hT : T (tT t.text ++ [en] ++ r) t.toks.length 4 (⟨#[41]⟩ : ByteArray) := by
    have hlt : t.toks.length < (tT t.text ++ [en] ++ r).length := by omega
    have hg : gt (tT t.text ++ [en] ++ r) ((t.toks.length : Nat) : Int) = en := by
      rw [gt_nat hlt, List.getElem_append_left (by rw [List.length_append, List.length_singleton]; omega), List.getElem_append_right (by omega)]
      simp
    exact ⟨hlt, by rw [hg, ← hE], by rw [hg, ← hE]⟩
  generalize tT t.text ++ [en] ++ r = L at hI hLl hT
  have hg := toks_gr t 0 h hv hI (by rw [Nat.zero_add]; exact ⟨sg_x hT (by decide), fun _ => sg_x hT (by decide)⟩)
  rw [Nat.zero_add] at hg
  have ht := take_T (l := L) (by omega) (up2 hg (lvl_le t) (sg_x hT (by decide))) (sg_x hT (by decide)) hd hn
  rw [show (((0 : Nat)) : Int) = 0 from rfl] at ht
  rw [ht]
  simp only [Option.bind_some, nilN, if_true, hlen]
  rw [if_pos (by simp), same_T hn]
  rfl
theorem gaps_law (c : List api_Node) (r : List api_Token) (hl : c.length * 56 ≤ bnd ∧ ∀ x ∈ c, ok_api_Node x) (hr : r.length ≤ 67108864) : weirlaw06_CondGaps.f c r = some true := by
  unfold weirlaw06_CondGaps.f
  rw [works]
  simp only [Option.bind_eq_bind, Option.bind_some, Bool.not_true, Bool.false_eq_true, if_false]
  rcases check_iff c with ⟨t, h1, h2, h3, h4, h5⟩ | ⟨e, h1, h2⟩
  · have hv : t.vals := vals_of t 0 (fun x hx => wf64 (hl.2 x (by rw [h2]; exact hx)).2.2.2.2)
    subst h2
    have hs := text_size t h1 hv
    have hw := textW_size t h1 hv
    rw [text_T h1 hv h3 h4]
    simp only [Option.bind_some, num_p]
    rw [if_neg (by decide)]
    obtain ⟨l, w1, w2⟩ := wide h1 hv h3
    rw [w1]
    simp only [Option.bind_some, w2]
    rw [if_pos (by rw [show (⟨#[9]⟩ : ByteArray).size = 1 from rfl]; omega), parse_wide h1 hv h3 h4]
    simp only [Option.bind_some, nilN, Bool.not_true, Bool.false_eq_true, if_false]
    rw [same_T h3]
    simp only [Option.bind_some, Bool.not_true, Bool.false_eq_true, if_false]
    rw [deep_p (by omega)]
    simp only [Option.bind_some]
    by_cases h60 : cnt (dl t.text) < 60
    · have hdc := dep_cnt t
      rw [if_pos (decide_eq_true (by omega)), if_pos (by rw [show (⟨#[40,32,40]⟩ : ByteArray).size = 3 from rfl]; omega), if_pos (by rw [sz, show (⟨#[40,32,40]⟩ : ByteArray).size = 3 from rfl, show (⟨#[41,32,41]⟩ : ByteArray).size = 3 from rfl]; omega)]
      rw [parse_br h1 hv h3 (by omega)]
      simp only [Option.bind_some, nilN, Bool.not_true, Bool.false_eq_true, if_false]
      rw [same_T h3]
      simp only [Option.bind_some, Bool.not_true, Bool.false_eq_true, if_false]
      rw [taken_T h1 hv h3 h4 r hr]
      rfl
    · rw [if_neg (nt (decide_eq_false (by omega)))]
      simp only [Option.bind_some]
      rw [taken_T h1 hv h3 h4 r hr]
      rfl
  · have ht : cond_Text.f c = some ((⟨#[]⟩ : ByteArray), e) := by
      unfold cond_Text.f
      rw [h2]
      simp only [Option.bind_eq_bind, Option.bind_some]
      rw [if_pos (bne_iff_ne.2 h1)]
    rw [ht]
    simp only [Option.bind_some, num_p]
    rw [if_pos (by simpa using h1)]
end Go.Proofs.YtboejepakdnbgaaGreatDoor.K.C
namespace Go.Proofs.YtboejepakdnbgaaGreatDoor.K
/-- The second form: bnd is 4294967296 here. -/
theorem law1 (c : List api_Node) (r : List api_Token) (hc : c.length * 56 ≤ bnd ∧ ∀ x ∈ c, ok_api_Node x) (hr : r.length * 64 ≤ bnd ∧ ∀ x ∈ r, ok_api_Token x) : weirlaw06_CondGaps.f c r = some true := C.gaps_law c r hc (by have h1 := hr.1; have h2 : bnd = 4294967296 := rfl; omega)
end Go.Proofs.YtboejepakdnbgaaGreatDoor.K
