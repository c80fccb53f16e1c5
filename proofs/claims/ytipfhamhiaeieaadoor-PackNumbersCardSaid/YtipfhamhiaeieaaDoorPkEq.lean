/-
  layer 43: bytes.Equal, the reference's Equal of words. Conditions: rows that can be read.
-/
import Derived.Test.YtipfhamhiaeieaaDoorPkPw
import Derived.Laws.IdiomStrings
namespace Go.Proofs.YtipfhamhiaeieaaDoor
open Go.RowKit Go.Lib

/-- The string of some bytes. -/
def strB (bs : List Nat) : ByteArray := ⟨(bs.map UInt8.ofNat).toArray⟩
theorem reads_conv {w : World} {B : Nat} {A : Option Addr} {n c : Nat} {bs : List Nat} (h : Reads w B 1 A n (bs.map bv)) (hb : ∀ b ∈ bs, b < 256) : (convert 35 9 (.slice A n c)).run Tryd.prog w = .ok (.string (strB bs)) w := by
  have hl : (bs.map UInt8.ofNat).length = n := by have := h.1; simpa using this
  rcases Nat.eq_zero_or_pos n with h0 | h0
  · subst h0
    obtain rfl : bs = [] := by
      have := h.1
      simpa using this
    rw [run_convert_bytes_string w 35 9 5 A 0 c Tryd.underlying35 Tryd.underlying5 Tryd.underlying9]
    cases A <;> rfl
  · obtain ⟨ad, rfl, _, hc⟩ := h.2 h0
    rw [← hl]
    refine run_convert_bytes_back (P := Tryd.prog) w 35 9 5 ad c (bs.map UInt8.ofNat) Tryd.underlying35 Tryd.underlying5 Tryd.underlying9 (fun j hj => ?_)
    have hj' : j < bs.length := by simpa using hj
    refine hc j _ ?_
    rw [List.getElem?_map, List.getElem?_eq_getElem hj']
    have := hb _ (List.getElem_mem hj')
    simp [bv, Nat.mod_eq_of_lt this]
theorem strB_inj {a b : List Nat} (ha : ∀ x ∈ a, x < 256) (hb : ∀ x ∈ b, x < 256) (h : strB a = strB b) : a = b := by
  have h' : a.map UInt8.ofNat = b.map UInt8.ofNat := by simpa [strB] using h
  have key : ∀ l : List Nat, (∀ x ∈ l, x < 256) → (l.map UInt8.ofNat).map UInt8.toNat = l := by
    intro l hl
    rw [List.map_map]
    conv => rhs; rw [← List.map_id l]
    exact List.map_congr_left fun x hx => by have := hl x hx; simp [Nat.mod_eq_of_lt this]
  rw [← key a ha, ← key b hb, h']
theorem strB_eq {a b : List Nat} (ha : ∀ x ∈ a, x < 256) (hb : ∀ x ∈ b, x < 256) : ((strB a).toList == (strB b).toList) = decide (a = b) := by
  rcases Decidable.em (a = b) with h | h
  · subst h; simp
  · rw [decide_eq_false h, beq_eq_false_iff_ne]
    intro h'
    exact h (strB_inj ha hb (ByteArray.ext (Array.toList_inj.mp (by rw [← ByteArray.toList_eq, ← ByteArray.toList_eq]; exact h'))))
set_option maxRecDepth 20000 in
theorem bytesEq_any (A A' : Option Addr) (n n' c c' B : Nat) (a b : List Nat) (w : World) (ha : Reads w B 1 A n (a.map bv)) (hb : Reads w B 1 A' n' (b.map bv)) (h1 : ∀ x ∈ a, x < 256) (h2 : ∀ x ∈ b, x < 256) :
    Calls Tryd.prog 16 #[.slice A n c, .slice A' n' c'] w fun e w' => e = .returned (.bool (decide (a = b))) ∧ w = w' := by
  have hc1 := reads_conv (c := c) ha h1
  have hc2 := reads_conv (c := c') hb h2
  have heq := strB_eq h1 h2
  generalize decide (a = b) = r at *
  generalize strB a = x at *
  generalize strB b = y at *
  clear ha hb h1 h2
  go_enter Tryd.func16, Tryd.ntmps16
  go_wp2
  go_ret
  exact ⟨rfl, rfl⟩
theorem snd_ne {s t : Snd} : (((s.1 : Int) == (t.1 : Int)) && ((s.2 : Int) == (t.2 : Int))) = decide (s = t) := by
  rw [Bool.eq_iff_iff]
  simp only [Bool.and_eq_true, beq_iff_eq, decide_eq_true_eq, Prod.ext_iff]
  omega
set_option maxRecDepth 20000 in
set_option maxHeartbeats 1000000 in
theorem refEqual_any (A A' : Option Addr) (n n' c c' B : Nat) (a b : List Snd) (w : World) (ha : Reads w B 2 A n (a.flatMap sndC)) (hb : Reads w B 2 A' n' (b.flatMap sndC)) (hB : B ≤ w.heap.size) (hn : n ≤ maxLen) :
    Calls Tryd.prog 29 #[.slice A n c, .slice A' n' c'] w fun e w' => e = .returned (.bool (decide (a = b))) ∧ w.heap = w'.heap ∧ Below w.heap.size w w' := by
  unfold maxLen at hn
  have hal := ha.len_of (fun _ => rfl) (by decide)
  have hbl := hb.len_of (fun _ => rfl) (by decide)
  obtain ⟨r, hr⟩ : ∃ r, decide (a = b) = r := ⟨_, rfl⟩
  rw [hr]
  have HA := Lib.hid ha; have HB := Lib.hid hb; have HAL := Lib.hid hal; have HBL := Lib.hid hbl; have HR := Lib.hid hr
  clear ha hb hal hbl hr
  by_cases hnn : n = n'
  · subst hnn
    go_enter Tryd.func29, Tryd.ntmps29
    go_wp2
    go_loopw [5] (fun i wr => ∃ k : Nat, k ≤ n ∧ i = .int .i64 k ∧ a.take k = b.take k ∧ w.heap = wr.heap ∧ Below w.heap.size w wr) (fun i _ => n - (intOf i).toNat)
    case atStart => exact ⟨0, by omega, rfl, rfl, rfl, Below.refl _ _⟩
    case round =>
      obtain ⟨k, hk, rfl, heq, hh, hbw⟩ := hrel
      have HEQ := Lib.hid heq; have HBW := Lib.hid hbw; have HH := Lib.hid hh
      clear heq hbw hh
      by_cases hlt : k < n
      · have hka : k < a.length := by rw [HAL.out]; exact hlt
        have hkb : k < b.length := by rw [HBL.out]; exact hlt
        have hkI : (k : Int) < (n : Int) := by omega
        obtain ⟨ad, rfl, had, hc0, hc1⟩ := snd_cells (HA.out.below (HBW.out.mono hB)) hka
        obtain ⟨ad', rfl, had', hc0', hc1'⟩ := snd_cells (HB.out.below (HBW.out.mono hB)) hkb
        have hT : a.take (k + 1) = b.take (k + 1) ↔ a[k] = b[k] := by
          have e1 := List.take_succ_eq_append_getElem hka
          have e2 := List.take_succ_eq_append_getElem hkb
          rw [e1, e2, HEQ.out]
          exact ⟨fun h => by have := List.append_cancel_left h; simpa using this, fun h => by rw [h]⟩
        have hne : a[k] ≠ b[k] → r = false := fun h => by
          rw [← HR.out, decide_eq_false]
          rintro rfl
          exact h rfl
        generalize a[k] = s at *
        generalize b[k] = t at *
        have HT := Lib.hid hT; have HN := Lib.hid hne
        clear hT hne
        by_cases h1 : s.1 = t.1
        · by_cases h2 : s.2 = t.2
          · have e1 : ((s.1 : Int) == (t.1 : Int)) = true := by rw [h1]; simp
            have e2 : ((s.2 : Int) == (t.2 : Int)) = true := by rw [h2]; simp
            have hst : s = t := Prod.ext h1 h2
            have HST := Lib.hid hst
            clear h1 h2 hst
            go_wp2
            go_region
            go_wp2
            go_roundw
            case rel => exact ⟨k + 1, by omega, by go_num, HT.out.2 HST.out, HH.out, HBW.out.drew⟩
            case measure => simp [intOf]; omega
          · have e1 : ((s.1 : Int) == (t.1 : Int)) = true := by rw [h1]; simp
            have e2 : ((s.2 : Int) == (t.2 : Int)) = false := by rw [beq_eq_false_iff_ne]; omega
            have hr0 := HN.out (fun h => h2 (by rw [h]))
            subst hr0
            clear h1 h2
            go_wp2
            go_region
            go_wp2
            go_ret
            exact ⟨rfl, HH.out, HBW.out.drew⟩
        · have e1 : ((s.1 : Int) == (t.1 : Int)) = false := by rw [beq_eq_false_iff_ne]; omega
          have hr0 := HN.out (fun h => h1 (by rw [h]))
          subst hr0
          clear h1
          go_wp2
          go_region
          go_wp2
          go_ret
          exact ⟨rfl, HH.out, HBW.out.drew⟩
      · obtain rfl : k = n := by omega
        have hr1 : r = true := by
          rw [← HR.out, decide_eq_true_eq]
          have h := HEQ.out
          rw [List.take_of_length_le (by rw [HAL.out]; exact Nat.le_refl _), List.take_of_length_le (by rw [HBL.out]; exact Nat.le_refl _)] at h
          exact h
        subst hr1
        go_wp2
        go_ret
        exact ⟨rfl, HH.out, HBW.out⟩
  · have hr0 : r = false := by
      rw [← HR.out, decide_eq_false]
      rintro rfl
      exact hnn (HAL.out.symm.trans HBL.out)
    subst hr0
    have hnI : ((n : Int) != (n' : Int)) = true := by rw [bne_iff_ne]; omega
    go_enter Tryd.func29, Tryd.ntmps29
    go_wp2
    go_ret
    exact ⟨rfl, rfl, Below.refl _ _⟩
end Go.Proofs.YtipfhamhiaeieaaDoor
