/-
  layer 43: whether a sound is valid, as each layer asks it; the errors of words. Conditions: numbers of 32 bits; a list that can be read.
-/
import Derived.Test.YtipfhamhiaeieaaDoorPkWa
namespace Go.Proofs.YtipfhamhiaeieaaDoor
open Go.RowKit Go.Lib

def validS (s : Snd) : Bool := decide (s.1 &&& s.2 = 0 ∧ s.1 ||| s.2 < 16777216)
theorem validS_true {s : Snd} (h1 : s.1 &&& s.2 = 0) (h2 : s.1 ||| s.2 < 16777216) : validS s = true := decide_eq_true ⟨h1, h2⟩
theorem validS_and {s : Snd} (h : ¬ s.1 &&& s.2 = 0) : validS s = false := decide_eq_false fun h' => h h'.1
theorem validS_or {s : Snd} (h : ¬ s.1 ||| s.2 < 16777216) : validS s = false := decide_eq_false fun h' => h h'.2
set_option maxRecDepth 20000 in
theorem wvalid_any (s : Snd) (w : World) (hs : ok32 s) : Calls Tryd.prog 39 #[sndV s] w fun e w' => e = .returned (.bool (validS s)) ∧ Below w.heap.size w w' := by
  have e1 := u32_and_nat s.1 s.2 hs.1 hs.2
  have e2 := u32_or_nat s.1 s.2 hs.1 hs.2
  have h32 : s.1 ||| s.2 < 4294967296 := Nat.or_lt_two_pow (n := 32) hs.1 hs.2
  obtain ⟨r, hr⟩ : ∃ r, validS s = r := ⟨_, rfl⟩
  rw [hr]
  by_cases h1 : s.1 &&& s.2 = 0
  · by_cases h2 : s.1 ||| s.2 < 16777216
    · rw [validS_true h1 h2] at hr
      subst hr
      obtain ⟨a, b⟩ := s
      simp only [] at *
      rw [h1] at e1
      generalize a ||| b = y at *
      have h2I : (y : Int) / 16777216 = 0 := by omega
      clear h1 hs
      go_enter Tryd.func39, Tryd.ntmps39
      go_wp2
      go_ret
      exact ⟨rfl, (Below.refl _ _).alloc (Nat.le_refl _) _⟩
    · rw [validS_or h2] at hr
      subst hr
      obtain ⟨a, b⟩ := s
      simp only [] at *
      rw [h1] at e1
      generalize a ||| b = y at *
      have h2I : ((y : Int) / 16777216 == 0) = false := by rw [beq_eq_false_iff_ne]; omega
      clear h1 hs
      go_enter Tryd.func39, Tryd.ntmps39
      go_wp2
      go_ret
      exact ⟨rfl, (Below.refl _ _).alloc (Nat.le_refl _) _⟩
  · rw [validS_and h1] at hr
    subst hr
    obtain ⟨a, b⟩ := s
    simp only [] at *
    generalize a &&& b = x at *
    have h1I : ((x : Int) == 0) = false := by rw [beq_eq_false_iff_ne]; omega
    clear h1 hs
    go_enter Tryd.func39, Tryd.ntmps39
    go_wp2
    go_ret
    exact ⟨rfl, (Below.refl _ _).alloc (Nat.le_refl _) _⟩
/-- The error of a word. -/
def wordE (ws : List Snd) : Int := if 32 < ws.length then 11 else if ws.all validS then 0 else 14
set_option maxRecDepth 20000 in
set_option maxHeartbeats 1000000 in
theorem wordCheck_any (A : Option Addr) (n c B : Nat) (ws : List Snd) (w : World) (hr : Reads w B 2 A n (ws.flatMap sndC)) (hB : B ≤ w.heap.size) (hn : n ≤ maxLen) (hok : ∀ s ∈ ws, ok32 s) :
    Calls Tryd.prog 22 #[.slice A n c] w fun e w' => e = .returned (.int .i64 (wordE ws)) ∧ Below w.heap.size w w' := by
  unfold maxLen at hn
  have hwl := hr.len_of (fun _ => rfl) (by decide)
  obtain ⟨r, hre⟩ : ∃ r, wordE ws = r := ⟨_, rfl⟩
  rw [hre]
  unfold wordE at hre
  rw [hwl] at hre
  have HRE := Lib.hid hre; have HR := Lib.hid hr; have HWL := Lib.hid hwl; have HOK := Lib.hid hok
  clear hr hwl hok hre
  by_cases h32 : 32 < n
  · have h32I : (32 : Int) < n := by omega
    go_enter Tryd.func22, Tryd.ntmps22
    go_wp2
    go_ret
    exact ⟨by rw [← HRE.out, if_pos h32]; rfl, Below.refl _ _⟩
  · have h32I : ¬ (32 : Int) < n := by omega
    go_enter Tryd.func22, Tryd.ntmps22
    go_wp2
    go_loopw [10] (fun i wr => ∃ k : Nat, k ≤ n ∧ i = .int .i64 k ∧ (ws.take k).all validS = true ∧ Below w.heap.size w wr) (fun i _ => n - (intOf i).toNat)
    case atStart => exact ⟨0, by omega, rfl, by simp, Below.refl _ _⟩
    case round =>
      obtain ⟨k, hk, rfl, hall, hb⟩ := hrel
      have HALL := Lib.hid hall; have HB := Lib.hid hb
      clear hall hb
      by_cases hlt : k < n
      · have hkl : k < ws.length := by rw [HWL.out]; exact hlt
        have hkI : (k : Int) < (n : Int) := by omega
        obtain ⟨ad, rfl, had, hc0, hc1⟩ := snd_cells (HR.out.below (HB.out.mono hB)) hkl
        have hst : (ws.take (k + 1)).all validS = ((ws.take k).all validS && validS ws[k]) := by rw [List.take_succ_eq_append_getElem hkl, List.all_append]; simp
        have HST := Lib.hid hst
        have hmem := List.getElem_mem hkl
        clear hst
        cases hv : validS ws[k]
        · have hmem' : ¬ (ws.all validS = true) := fun h => by rw [List.all_eq_true.1 h _ hmem] at hv; cases hv
          have HM := Lib.hid hmem'; have HV := Lib.hid hv
          have hOK := HOK.out _ hmem
          clear hmem' hv hmem
          generalize ws[k] = s at *
          go_wp2_with fail
          refine (wvalid_any s _ hOK).mono ?_
          rw [HV.out]
          rintro e w2 ⟨rfl, hb2⟩
          have HB2 := Lib.hid hb2
          clear hb2
          go_wp2
          go_ret
          exact ⟨by rw [← HRE.out, if_neg h32, if_neg HM.out]; rfl, (HB.out.alloc HB.out.size _).trans (HB2.out.mono (by have := HB.out.size; simp; omega))⟩
        · have HV := Lib.hid hv
          have hOK := HOK.out _ hmem
          clear hv hmem
          generalize ws[k] = s at *
          go_wp2_with fail
          refine (wvalid_any s _ hOK).mono ?_
          rw [HV.out]
          rintro e w2 ⟨rfl, hb2⟩
          have HB2 := Lib.hid hb2
          clear hb2
          go_wp2
          go_roundw
          case rel => exact ⟨k + 1, by omega, by go_num, by rw [HST.out, HALL.out, HV.out]; rfl, (HB.out.alloc HB.out.size _).trans (HB2.out.mono (by have := HB.out.size; simp; omega))⟩
          case measure => simp [intOf]; omega
      · obtain rfl : k = n := by omega
        go_wp2
        go_ret
        have := HALL.out
        rw [List.take_of_length_le (by rw [HWL.out]; exact Nat.le_refl _)] at this
        exact ⟨by rw [← HRE.out, if_neg h32, if_pos this]; rfl, HB.out⟩
end Go.Proofs.YtipfhamhiaeieaaDoor
