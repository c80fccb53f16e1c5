/-
  layer 43: Valid of the reference's layer 1, Check of its layer 2. Conditions: numbers of 32 bits; a list that can be read.
-/
import Derived.Test.YtipfhamhiaeieaaDoorPkV2
namespace Go.Proofs.YtipfhamhiaeieaaDoor
open Go.RowKit Go.Lib

theorem bit_int (n f : Nat) (hn : n < 4294967296) : bits .and .u32 ((n : Int) / 2 ^ f) 1 = if n.testBit f then 1 else 0 := by
  have e : (n : Int) / 2 ^ f = ((n / 2 ^ f : Nat) : Int) := by simp
  rw [e]
  have h := u32_and_nat (n / 2 ^ f) 1 (Nat.lt_of_le_of_lt (Nat.div_le_self _ _) hn) (by decide)
  rw [Nat.and_one_is_mod] at h
  rw [show ((1 : Nat) : Int) = 1 from rfl] at h
  rw [h, Nat.testBit_eq_decide_div_mod_eq]
  by_cases h1 : n / 2 ^ f % 2 = 1
  · rw [h1]; simp
  · rw [show n / 2 ^ f % 2 = 0 by omega]; simp
set_option maxRecDepth 20000 in
set_option maxHeartbeats 1000000 in
theorem rvalid1_any (s : Snd) (w : World) (hs : ok32 s) : Calls Tryd.prog 66 #[sndV s] w fun e w' => e = .returned (.bool (validS s)) ∧ Below w.heap.size w w' := by
  rw [validS_bits hs]
  obtain ⟨r, hr⟩ : ∃ r, (List.range 32).all (bitOk s) = r := ⟨_, rfl⟩
  rw [hr]
  have HR := Lib.hid hr
  have HS := Lib.hid hs
  clear hr hs
  obtain ⟨a, b⟩ := s
  go_enter Tryd.func66, Tryd.ntmps66
  go_wp2
  go_loop [3] (fun i => ∃ k : Nat, k ≤ 32 ∧ i = .int .i64 k ∧ (List.range k).all (bitOk (a, b)) = true) (fun i => 32 - (intOf i).toNat)
  case atStart => exact ⟨0, by omega, rfl, rfl⟩
  case round =>
    obtain ⟨k, hk, rfl, hall⟩ := hrel
    have HALL := Lib.hid hall
    clear hall
    by_cases hlt : k < 32
    · have hkI : (k : Int) < 32 := by omega
      have hst : (List.range (k + 1)).all (bitOk (a, b)) = bitOk (a, b) k := by rw [List.range_succ, List.all_append, HALL.out]; simp
      have hbo : bitOk (a, b) k = (!(a.testBit k && b.testBit k) && !((a.testBit k || b.testBit k) && decide (24 ≤ k))) := rfl
      have hfin : bitOk (a, b) k = false → r = false := fun h => by
        rw [← HR.out, List.all_eq_false]
        exact ⟨k, List.mem_range.2 hlt, by rw [h]; decide⟩
      have ha := bit_int a k HS.out.1
      have hb := bit_int b k HS.out.2
      have HST := Lib.hid hst; have HFIN := Lib.hid hfin
      clear hst hfin
      by_cases h24 : 24 ≤ k
      · have h24I : (24 : Int) ≤ k := by omega
        rw [decide_eq_true h24] at hbo
        cases hta : a.testBit k <;> cases htb : b.testBit k <;> rw [hta, htb] at hbo <;> rw [hta] at ha <;> rw [htb] at hb <;> simp only [if_true, if_false, Bool.false_eq_true] at ha hb <;> (have HBO := Lib.hid hbo) <;> clear hbo hta htb
        · go_wp2
          go_round
          case rel => exact ⟨k + 1, by omega, by go_num, by rw [HST.out, HBO.out]; rfl⟩
          case measure => simp [intOf]; omega
        all_goals
          go_wp2
          go_ret
          exact ⟨by rw [HFIN.out HBO.out]; rfl, (Below.refl _ _).alloc (Nat.le_refl _) _⟩
      · have h24I : ¬ (24 : Int) ≤ k := by omega
        rw [decide_eq_false h24] at hbo
        cases hta : a.testBit k <;> cases htb : b.testBit k <;> rw [hta, htb] at hbo <;> rw [hta] at ha <;> rw [htb] at hb <;> simp only [if_true, if_false, Bool.false_eq_true] at ha hb <;> (have HBO := Lib.hid hbo) <;> clear hbo hta htb
        case true.true =>
          go_wp2
          go_ret
          exact ⟨by rw [HFIN.out HBO.out]; rfl, (Below.refl _ _).alloc (Nat.le_refl _) _⟩
        all_goals
          go_wp2
          go_round
          case rel => exact ⟨k + 1, by omega, by go_num, by rw [HST.out, HBO.out]; rfl⟩
          case measure => simp [intOf]; omega
    · obtain rfl : k = 32 := by omega
      have hr := HR.out
      rw [HALL.out] at hr
      subst hr
      go_wp2
      go_ret
      exact ⟨rfl, (Below.refl _ _).alloc (Nat.le_refl _) _⟩
set_option maxRecDepth 20000 in
set_option maxHeartbeats 1000000 in
theorem refWord_any (A : Option Addr) (n c B : Nat) (ws : List Snd) (w : World) (hr : Reads w B 2 A n (ws.flatMap sndC)) (hB : B ≤ w.heap.size) (hn : n ≤ maxLen) (hok : ∀ s ∈ ws, ok32 s) :
    Calls Tryd.prog 37 #[.slice A n c] w fun e w' => e = .returned (.int .i64 (wordE ws)) ∧ Below w.heap.size w w' := by
  unfold maxLen at hn
  have hwl := hr.len_of (fun _ => rfl) (by decide)
  obtain ⟨r, hre⟩ : ∃ r, wordE ws = r := ⟨_, rfl⟩
  rw [hre]
  unfold wordE at hre
  rw [hwl] at hre
  have HRE := Lib.hid hre; have HR := Lib.hid hr; have HWL := Lib.hid hwl; have HOK := Lib.hid hok
  clear hr hwl hok hre
  by_cases h32 : 32 < n
  · have h32I : (32 : Int) < n := by omega
    go_enter Tryd.func37, Tryd.ntmps37
    go_wp2
    go_ret
    exact ⟨by rw [← HRE.out, if_pos h32]; rfl, Below.refl _ _⟩
  · have h32I : ¬ (32 : Int) < n := by omega
    go_enter Tryd.func37, Tryd.ntmps37
    go_wp2
    go_loopw [3] (fun i wr => ∃ k : Nat, k ≤ n ∧ i = .int .i64 k ∧ (ws.take k).all validS = true ∧ Below w.heap.size w wr) (fun i _ => n - (intOf i).toNat)
    case atStart => exact ⟨0, by omega, rfl, by simp, Below.refl _ _⟩
    case round =>
      obtain ⟨k, hk, rfl, hall, hb⟩ := hrel
      have HALL := Lib.hid hall; have HB := Lib.hid hb
      clear hall hb
      by_cases hlt : k < n
      · have hkl : k < ws.length := by rw [HWL.out]; exact hlt
        have hkI : (k : Int) < (n : Int) := by omega
        obtain ⟨ad, rfl, had, hc0, hc1⟩ := snd_cells (HR.out.below (HB.out.mono hB)) hkl
        have hst : (ws.take (k + 1)).all validS = ((ws.take k).all validS && validS ws[k]) := by rw [List.take_succ_eq_append_getElem hkl, List.all_append]; simp
        have HST := Lib.hid hst
        have hmem := List.getElem_mem hkl
        clear hst
        cases hv : validS ws[k]
        · have hmem' : ¬ (ws.all validS = true) := fun h => by rw [List.all_eq_true.1 h _ hmem] at hv; cases hv
          have HM := Lib.hid hmem'; have HV := Lib.hid hv
          have hOK := HOK.out _ hmem
          clear hmem' hv hmem
          generalize ws[k] = s at *
          go_wp2_with fail
          refine (rvalid2_any s _ hOK).mono ?_
          rw [HV.out]
          rintro e w2 ⟨rfl, hb2⟩
          have HB2 := Lib.hid hb2
          clear hb2
          go_wp2
          go_ret
          exact ⟨by rw [← HRE.out, if_neg h32, if_neg HM.out]; rfl, HB.out.trans (HB2.out.mono HB.out.size)⟩
        · have HV := Lib.hid hv
          have hOK := HOK.out _ hmem
          clear hv hmem
          generalize ws[k] = s at *
          go_wp2_with fail
          refine (rvalid2_any s _ hOK).mono ?_
          rw [HV.out]
          rintro e w2 ⟨rfl, hb2⟩
          have HB2 := Lib.hid hb2
          clear hb2
          go_wp2
          go_roundw
          case rel => exact ⟨k + 1, by omega, by go_num, by rw [HST.out, HALL.out, HV.out]; rfl, HB.out.trans (HB2.out.mono HB.out.size)⟩
          case measure => simp [intOf]; omega
      · obtain rfl : k = n := by omega
        go_wp2
        go_ret
        have := HALL.out
        rw [List.take_of_length_le (by rw [HWL.out]; exact Nat.le_refl _)] at this
        exact ⟨by rw [← HRE.out, if_neg h32, if_pos this]; rfl, HB.out⟩
end Go.Proofs.YtipfhamhiaeieaaDoor
