/-
  layer 43: Equal of words, the program's; words read back, plainly. Conditions: rows that can be read.
-/
import Derived.Test.YtipfhamhiaeieaaDoorPkWl
namespace Go.Proofs.YtipfhamhiaeieaaDoor
open Go.RowKit Go.Lib

theorem putW_back {ws : List Snd} (hok : ∀ s ∈ ws, ok32 s) (h0 : wordE ws = 0) (r : List Nat) : getW (putW ws ++ r) = (ws, (putW ws).length, 0) := by
  have hl := wordE_len h0
  have hb := back_word ws r ⟨by unfold is32; omega, hok⟩
  unfold getW putW
  rw [if_pos h0, hb]
  simp only [if_pos h0, List.length_append]
  rw [Nat.add_sub_cancel]
theorem putW_part {ws : List Snd} (hok : ∀ s ∈ ws, ok32 s) (h0 : wordE ws = 0) {i : Nat} (hi : i < (putW ws).length) : getW ((putW ws).take i) = ([], 0, 10) := by
  have hl := wordE_len h0
  unfold putW at hi ⊢
  rw [if_pos h0] at hi ⊢
  have hp := part_word ws i ⟨by unfold is32; omega, hok⟩ hi
  unfold getW
  rw [hp]
set_option maxRecDepth 20000 in
set_option maxHeartbeats 1000000 in
theorem sEqual_any (A A' : Option Addr) (n n' c c' B : Nat) (a b : List Snd) (w : World) (ha : Reads w B 2 A n (a.flatMap sndC)) (hb : Reads w B 2 A' n' (b.flatMap sndC)) (hB : B ≤ w.heap.size) (hn : n ≤ maxLen) :
    Calls Tryd.prog 44 #[.slice A n c, .slice A' n' c'] w fun e w' => e = .returned (.bool (decide (a = b))) ∧ w.heap = w'.heap ∧ Below w.heap.size w w' := by
  unfold maxLen at hn
  have hal := ha.len_of (fun _ => rfl) (by decide)
  have hbl := hb.len_of (fun _ => rfl) (by decide)
  obtain ⟨r, hr⟩ : ∃ r, decide (a = b) = r := ⟨_, rfl⟩
  rw [hr]
  have HA := Lib.hid ha; have HB := Lib.hid hb; have HAL := Lib.hid hal; have HBL := Lib.hid hbl; have HR := Lib.hid hr
  clear ha hb hal hbl hr
  by_cases hnn : n = n'
  · subst hnn
    go_enter Tryd.func44, Tryd.ntmps44
    go_wp2
    go_loopw [13] (fun i wr => ∃ k : Nat, k ≤ n ∧ i = .int .i64 k ∧ a.take k = b.take k ∧ w.heap = wr.heap ∧ Below w.heap.size w wr) (fun i _ => n - (RowKit.intOf i).toNat)
    case atStart => exact ⟨0, by omega, rfl, rfl, rfl, Below.refl _ _⟩
    case round =>
      obtain ⟨k, hk, rfl, heq, hh, hbw⟩ := hrel
      have HEQ := Lib.hid heq; have HBW := Lib.hid hbw; have HH := Lib.hid hh
      clear heq hbw hh
      by_cases hlt : k < n
      · have hka : k < a.length := by rw [HAL.out]; exact hlt
        have hkb : k < b.length := by rw [HBL.out]; exact hlt
        have hkI : (k : Int) < (n : Int) := by omega
        obtain ⟨ad, rfl, had, hc0, hc1⟩ := snd_cells (HA.out.below (HBW.out.mono hB)) hka
        obtain ⟨ad', rfl, had', hc0', hc1'⟩ := snd_cells (HB.out.below (HBW.out.mono hB)) hkb
        have hT : a.take (k + 1) = b.take (k + 1) ↔ a[k] = b[k] := by
          have e1 := List.take_succ_eq_append_getElem hka
          have e2 := List.take_succ_eq_append_getElem hkb
          rw [e1, e2, HEQ.out]
          exact ⟨fun h => by have := List.append_cancel_left h; simpa using this, fun h => by rw [h]⟩
        have hne : a[k] ≠ b[k] → r = false := fun h => by
          rw [← HR.out, decide_eq_false]
          rintro rfl
          exact h rfl
        generalize a[k] = s at *
        generalize b[k] = t at *
        have HT := Lib.hid hT; have HN := Lib.hid hne
        clear hT hne
        by_cases h1 : s.1 = t.1
        · by_cases h2 : s.2 = t.2
          · have e1 : ((s.1 : Int) == (t.1 : Int)) = true := by rw [h1]; simp
            have e2 : ((s.2 : Int) == (t.2 : Int)) = true := by rw [h2]; simp
            have hst : s = t := Prod.ext h1 h2
            have HST := Lib.hid hst
            clear h1 h2 hst
            go_wp2
            go_region
            go_wp2
            go_roundw
            case rel => exact ⟨k + 1, by omega, by go_num, HT.out.2 HST.out, HH.out, HBW.out.drew⟩
            case measure => simp [RowKit.intOf]; omega
          · have e1 : ((s.1 : Int) == (t.1 : Int)) = true := by rw [h1]; simp
            have e2 : ((s.2 : Int) == (t.2 : Int)) = false := by rw [beq_eq_false_iff_ne]; omega
            have hr0 := HN.out (fun h => h2 (by rw [h]))
            subst hr0
            clear h1 h2
            go_wp2
            go_region
            go_wp2
            go_ret
            exact ⟨rfl, HH.out, HBW.out.drew⟩
        · have e1 : ((s.1 : Int) == (t.1 : Int)) = false := by rw [beq_eq_false_iff_ne]; omega
          have hr0 := HN.out (fun h => h1 (by rw [h]))
          subst hr0
          clear h1
          go_wp2
          go_region
          go_wp2
          go_ret
          exact ⟨rfl, HH.out, HBW.out.drew⟩
      · obtain rfl : k = n := by omega
        have hr1 : r = true := by
          rw [← HR.out, decide_eq_true_eq]
          have h := HEQ.out
          rw [List.take_of_length_le (by rw [HAL.out]; exact Nat.le_refl _), List.take_of_length_le (by rw [HBL.out]; exact Nat.le_refl _)] at h
          exact h
        subst hr1
        go_wp2
        go_ret
        exact ⟨rfl, HH.out, HBW.out⟩
  · have hr0 : r = false := by
      rw [← HR.out, decide_eq_false]
      rintro rfl
      exact hnn (HAL.out.symm.trans HBL.out)
    subst hr0
    have hnI : ((n : Int) != (n' : Int)) = true := by rw [bne_iff_ne]; omega
    go_enter Tryd.func44, Tryd.ntmps44
    go_wp2
    go_ret
    exact ⟨rfl, rfl, Below.refl _ _⟩
set_option maxRecDepth 20000 in
theorem wEqual_any (A A' : Option Addr) (n n' c c' B : Nat) (a b : List Snd) (w : World) (ha : Reads w B 2 A n (a.flatMap sndC)) (hb : Reads w B 2 A' n' (b.flatMap sndC)) (hB : B ≤ w.heap.size) (hn : n ≤ maxLen) :
    Calls Tryd.prog 24 #[.slice A n c, .slice A' n' c'] w fun e w' => e = .returned (.bool (decide (a = b))) ∧ Below w.heap.size w w' := by
  have hs := sEqual_any A A' n n' c c' B a b w ha hb hB hn
  clear ha hb hB hn
  go_enter Tryd.func24, Tryd.ntmps24
  go_wp2_with fail
  refine hs.mono ?_
  rintro e w1 ⟨rfl, _, hb⟩
  have HB := Lib.hid hb
  clear hb
  go_wp2
  go_ret
  exact ⟨rfl, HB.out⟩
end Go.Proofs.YtipfhamhiaeieaaDoor
