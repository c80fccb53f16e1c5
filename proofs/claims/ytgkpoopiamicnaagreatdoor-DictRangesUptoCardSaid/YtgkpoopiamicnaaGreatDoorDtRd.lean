/-
  Layer 40: the reference's dictionaries in memory; valid, New, head, line, at, before. Conditions: texts of the reach.
-/
import Derived.Test.YtgkpoopiamicnaaGreatDoorDtR1
import Derived.Test.YtgkpoopiamicnaaGreatDoorZbas
namespace Go.Proofs.YtgkpoopiamicnaaGreatDoor
open Go.RowKit Go.Lib

/-- The reference's dictionary in block g, its alphabet in block a (below B); its articles lie in blocks of S. -/
structure RDct (w : World) (B a g : Nat) (lv : Value) (gs : Grps) (S : Nat → Prop) (L : List Art) : Prop where
  blk : Blk w g 114 #[.bool true, .pointer (some ⟨a, 0, none⟩), lv]
  alph : ∀ w', Below B w w' → RefAlph w' a gs
  small : SmallG gs
  list : ArtsF w S L lv
  low : B ≤ w.heap.size ∧ B ≤ g
  cont : ∀ b, S b → B ≤ b ∧ b < w.heap.size ∧ b ≠ g
section
variable {w w' : World} {B a g : Nat} {lv : Value} {gs : Grps} {S : Nat → Prop} {L : List Art}
theorem RDct.chg {T : Nat → Prop} (h : RDct w B a g lv gs S L) (hc : ChgS T w w') (hB : ∀ b, T b → B ≤ b) (h1 : ¬ T g) (h2 : ∀ b, S b → ¬ T b) : RDct w' B a g lv gs S L where
  blk := h.blk.chgS hc h1
  alph w2 hb := h.alph w2 ((hc.below hB h.low.1).trans hb)
  small := h.small
  list := h.list.keep (fun _ h => h) (keepS_chg hc (fun b hb => (h.cont b hb).2.1) h2)
  low := ⟨Nat.le_trans h.low.1 hc.size, h.low.2⟩
  cont b hb := by
    obtain ⟨c1, c2, c3⟩ := h.cont b hb
    exact ⟨c1, Nat.lt_of_lt_of_le c2 hc.size, c3⟩
theorem RDct.below (h : RDct w B a g lv gs S L) (hb : Below w.heap.size w w') : RDct w' B a g lv gs S L :=
  h.chg (T := fun _ => False) (.of_below hb) (fun _ h => h.elim) (fun h => h) (fun _ _ h => h)
theorem RDct.cells (h : RDct w B a g lv gs S L) : w.cell? ⟨g, 0, none⟩ = some (.bool true) ∧ w.cell? ⟨g, 1, none⟩ = some (.pointer (some ⟨a, 0, none⟩)) ∧ w.cell? ⟨g, 2, none⟩ = some lv := ⟨h.blk.cell 0, h.blk.cell 1, h.blk.cell 2⟩
theorem RDct.refO (h : RDct w B a g lv gs S L) : RefO w (some ⟨a, 0, none⟩) (some gs) := ⟨a, rfl, h.alph w (Below.refl _ _)⟩
theorem rvalid_any (h : RDct w B a g lv gs S L) : Calls Tryz.prog 57 #[wptr g] w fun e w' => e = .returned (.bool true) ∧ w = w' := by
  obtain ⟨c0, c1, c2⟩ := h.cells
  clear h
  go_enter Tryz.func57, Tryz.ntmps57
  go_wp2
  go_ret
  exact ⟨rfl, rfl⟩
theorem rkey_any (h : RDct w B a g lv gs S L) (s : ByteArray) (hs : s.size ≤ 140737488351232) : Calls Tryz.prog 62 #[wptr a, .string s] w fun e w' => (∃ v, e = .returned (.tuple #[v, .int .i64 (readRes gs s).1])) ∧ Below w.heap.size w w' := by
  refine (refKey_any a gs s w (h.alph w (Below.refl _ _)) h.small (by unfold maxLen; omega)).mono ?_
  rintro e w' ⟨v, rfl, _, hb⟩
  exact ⟨⟨v, rfl⟩, hb⟩
theorem rbefore_any (h : RDct w B a g lv gs S L) (s t : ByteArray) (hs : s.size ≤ 140737488351232) (ht : t.size ≤ 140737488351232) : Calls Tryz.prog 59 #[wptr g, .string s, .string t] w fun e w' => e = .returned (.bool (decide (ordT gs s t < 0))) ∧ Below w.heap.size w w' := by
  have ho : Calls Tryz.prog 117 #[.pointer (some ⟨a, 0, none⟩), .string s, .string t] w (fun e w' => ∃ k, e = .returned (.tuple #[.int .i64 (ordT gs s t), .int .i64 k]) ∧ Below w.heap.size w w') :=
    (refOrder_any (some ⟨a, 0, none⟩) (some gs) s t w h.refO h.small (by unfold maxLen; omega) (by unfold maxLen; omega)).mono fun e w' ⟨h1, h2⟩ => ⟨_, h1, h2⟩
  obtain ⟨c0, c1, c2⟩ := h.cells
  clear h
  generalize ordT gs s t = r at *
  go_enter Tryz.func59, Tryz.ntmps59
  go_wp2_with fail
  refine ho.mono ?_
  rintro e w1 ⟨k, rfl, hb⟩
  go_wp2
  go_ret
  exact ⟨rfl, hb⟩
set_option maxRecDepth 20000 in
theorem rhead_any (h : RDct w B a g lv gs S L) (s : ByteArray) (hs : s.size ≤ 140737488351232) : Calls Tryz.prog 115 #[wptr g, .string s] w fun e w' => e = .returned (.bool (headB gs s)) ∧ Below w.heap.size w w' := by
  obtain ⟨c0, c1, c2⟩ := h.cells
  have hk := rkey_any h s hs
  obtain ⟨r, hr⟩ : ∃ r, headB gs s = r := ⟨_, rfl⟩
  rw [hr]
  unfold headB at hr
  clear h
  by_cases h0 : (readRes gs s).1 = 0
  · rw [decide_eq_true h0, Bool.and_true] at hr
    rw [h0] at hk
    have hcase : (¬ (1 : Int) ≤ (s.size : Int) ∧ r = false) ∨ ((1 : Int) ≤ (s.size : Int) ∧ (s.size : Int) ≤ 64 ∧ r = true) ∨ ((1 : Int) ≤ (s.size : Int) ∧ ¬ (s.size : Int) ≤ 64 ∧ r = false) := by
      rcases (by omega : s.size = 0 ∨ (s.size ≠ 0 ∧ s.size ≤ 64) ∨ 64 < s.size) with h1 | ⟨h1, h2⟩ | h1
      · left; exact ⟨by omega, by rw [← hr, decide_eq_true h1]; rfl⟩
      · right; left; exact ⟨by omega, by omega, by rw [← hr, decide_eq_false h1, decide_eq_true h2]; rfl⟩
      · right; right; exact ⟨by omega, by omega, by rw [← hr, decide_eq_false (show ¬ s.size ≤ 64 by omega), Bool.and_false]⟩
    clear hr h0
    rcases hcase with ⟨h1, rfl⟩ | ⟨h1, h2, rfl⟩ | ⟨h1, h2, rfl⟩
    · go_enter Tryz.func115, Tryz.ntmps115
      go_wp2_with fail
      refine hk.mono ?_
      rintro e' w1 ⟨⟨v, rfl⟩, hb⟩
      go_wp2
      go_ret
      exact ⟨rfl, hb⟩
    · go_enter Tryz.func115, Tryz.ntmps115
      go_wp2_with fail
      refine hk.mono ?_
      rintro e' w1 ⟨⟨v, rfl⟩, hb⟩
      go_wp2
      go_ret
      exact ⟨by rw [← decide_eq_true (show (s.size : Int) ≤ 64 by omega)]; rfl, hb⟩
    · go_enter Tryz.func115, Tryz.ntmps115
      go_wp2_with fail
      refine hk.mono ?_
      rintro e' w1 ⟨⟨v, rfl⟩, hb⟩
      go_wp2
      go_ret
      exact ⟨by rw [← decide_eq_false (show ¬ (s.size : Int) ≤ 64 by omega)]; rfl, hb⟩
  · rw [decide_eq_false h0, Bool.and_false, Bool.and_false] at hr
    subst hr
    have h0I : ((readRes gs s).1 == 0) = false := beq_false_of_ne h0
    clear h0
    generalize (readRes gs s).1 = k at *
    go_enter Tryz.func115, Tryz.ntmps115
    go_wp2_with fail
    refine hk.mono ?_
    rintro e' w1 ⟨⟨v, rfl⟩, hb⟩
    go_wp2
    go_ret
    exact ⟨rfl, hb⟩
theorem rnew_any40 (a : Nat) (gs : Grps) (w : World) (B : Nat) (hB : B ≤ w.heap.size) (ha : ∀ w', Below B w w' → RefAlph w' a gs) (hG : SmallG gs) :
    Calls Tryz.prog 13 #[wptr a] w fun e w' => ∃ g, w.heap.size ≤ g ∧ e = .returned (.tuple #[wptr g, .int .i64 0]) ∧ RDct w' B a g (.slice none 0 0) gs (fun _ => False) [] ∧ Below w.heap.size w w' := by
  obtain ⟨base, v, hblk, hM⟩ := ha w (Below.refl _ _)
  have c0 := hblk.cell 0
  simp only [List.getElem?_toArray, List.getElem?_cons_zero] at c0
  have hbk := Blk.new w 114 #[.bool true, .pointer (some ⟨a, 0, none⟩), .slice none 0 0]
  have hb : Below w.heap.size w (w.alloc (.cells #[.bool true, .pointer (some ⟨a, 0, none⟩), .slice none 0 0] 114)) := (Below.refl _ _).alloc (Nat.le_refl _) _
  have HA := Lib.hid ha; have HBK := Lib.hid hbk; have HB := Lib.hid hb
  clear hblk hM ha hbk hb
  go_enter Tryz.func13, Tryz.ntmps13
  go_wp2
  go_ret2
  exact ⟨w.heap.size, Nat.le_refl _, rfl, ⟨HBK.out, fun w2 h2 => HA.out w2 ((HB.out.mono hB).trans h2), hG, slF_nil _ _ _ _, ⟨Nat.le_trans hB HB.out.size, hB⟩, fun _ h => h.elim⟩, HB.out⟩
end
theorem lineB_bad {s : ByteArray} {k : Nat} (hk : k < (bl s).length) (h : ¬ 32 ≤ (bl s)[k].toNat) : lineB s = false := by
  have h2 : (bl s).all (fun c => decide (32 ≤ c.toNat)) = false := by
    rw [List.all_eq_false]
    exact ⟨_, List.getElem_mem hk, by simpa using h⟩
  unfold lineB
  rw [h2, Bool.and_false, Bool.and_false]
theorem lineB_good {s : ByteArray} (h : ∀ j (hj : j < (bl s).length), 32 ≤ (bl s)[j].toNat) : lineB s = (!decide (s.size = 0) && decide (s.size ≤ 200)) := by
  have h2 : (bl s).all (fun c => decide (32 ≤ c.toNat)) = true := by
    rw [List.all_eq_true]
    intro x hx
    obtain ⟨j, hj, rfl⟩ := List.getElem_of_mem hx
    exact decide_eq_true (h j hj)
  unfold lineB
  rw [h2, Bool.and_true]
set_option maxRecDepth 20000 in
set_option maxHeartbeats 4000000 in
theorem rline_any (s : ByteArray) (w : World) (hs : s.size ≤ 140737488351232) : Calls Tryz.prog 116 #[.string s] w fun e w' => e = .returned (.bool (lineB s)) ∧ w = w' := by
  go_enter Tryz.func116, Tryz.ntmps116
  go_wp2
  go_loop [3] (fun i => ∃ k : Nat, k ≤ s.size ∧ i = .int .i64 k ∧ ∀ j (hj : j < (bl s).length), j < k → 32 ≤ (bl s)[j].toNat) (fun i => s.size - (RowKit.intOf i).toNat)
  case atStart => exact ⟨0, Nat.zero_le _, rfl, fun j _ h => absurd h (by omega)⟩
  case round =>
    obtain ⟨k, hk, rfl, hall⟩ := hrel
    have HA := Lib.hid hall
    clear hall
    by_cases hlt : k < s.size
    · by_cases hc : s[k].toNat < 32
      · go_wp2
        go_ret
        rw [lineB_bad (k := k) (by rw [bl_len]; exact hlt) (by have : (bl s)[k]'(by rw [bl_len]; exact hlt) = s[k] := rfl; rw [this]; omega)]
        exact ⟨rfl, rfl⟩
      · go_wp2
        go_round
        case rel => exact ⟨k + 1, by omega, by go_num, fun j hj hjk => if h : j = k then by subst h; exact Nat.le_of_not_lt hc else HA.out j hj (by omega)⟩
        case measure => simp [RowKit.intOf]; omega
    · have hgood := lineB_good (s := s) (fun j hj => HA.out j hj (by rw [bl_len] at hj; omega))
      have HG := Lib.hid hgood
      have hcase : (¬ (1 : Int) ≤ (s.size : Int) ∧ (!decide (s.size = 0) && decide (s.size ≤ 200)) = false) ∨ ((1 : Int) ≤ (s.size : Int) ∧ (!decide (s.size = 0) && decide (s.size ≤ 200)) = decide ((s.size : Int) ≤ 200)) := by
        rcases (by omega : s.size = 0 ∨ s.size ≠ 0) with h1 | h1
        · left; exact ⟨by omega, by rw [decide_eq_true h1]; rfl⟩
        · right; exact ⟨by omega, by rw [decide_eq_false h1, Bool.not_false, Bool.true_and]; exact decide_eq_decide.2 (by omega)⟩
      clear hgood
      rcases hcase with ⟨h1, h2⟩ | ⟨h1, h2⟩
      · have H2 := Lib.hid h2
        clear h2
        go_wp2
        go_ret
        rw [HG.out, H2.out]
        exact ⟨rfl, rfl⟩
      · have H2 := Lib.hid h2
        clear h2
        go_wp2
        go_ret
        rw [HG.out, H2.out]
        exact ⟨rfl, rfl⟩
end Go.Proofs.YtgkpoopiamicnaaGreatDoor
