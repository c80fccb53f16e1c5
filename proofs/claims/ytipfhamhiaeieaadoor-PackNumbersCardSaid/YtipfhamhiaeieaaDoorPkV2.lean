/-
  layer 43: whether a sound is valid, as the reference's layers 1 and 2, and the program's layers 1 and 6, ask it. Conditions: numbers of 32 bits.
-/
import Derived.Test.YtipfhamhiaeieaaDoorPkV
namespace Go.Proofs.YtipfhamhiaeieaaDoor
open Go.RowKit Go.Lib

theorem or_lt24 {a b : Nat} : a ||| b < 16777216 ↔ a < 16777216 ∧ b < 16777216 :=
  ⟨fun h => ⟨Nat.lt_of_le_of_lt Nat.left_le_or h, Nat.lt_of_le_of_lt Nat.right_le_or h⟩, fun h => Nat.or_lt_two_pow (n := 24) h.1 h.2⟩
set_option maxRecDepth 20000 in
theorem rvalid2_any (s : Snd) (w : World) (hs : ok32 s) : Calls Tryd.prog 73 #[sndV s] w fun e w' => e = .returned (.bool (validS s)) ∧ Below w.heap.size w w' := by
  have e1 := u32_and_nat s.1 s.2 hs.1 hs.2
  obtain ⟨r, hr⟩ : ∃ r, validS s = r := ⟨_, rfl⟩
  rw [hr]
  by_cases h1 : s.1 &&& s.2 = 0
  · by_cases h2 : s.1 < 16777216
    · by_cases h3 : s.2 < 16777216
      · rw [validS_true h1 (or_lt24.2 ⟨h2, h3⟩)] at hr
        subst hr
        obtain ⟨a, b⟩ := s
        simp only [] at *
        rw [h1] at e1
        have h2I : (a : Int) < 16777216 := by omega
        have h3I : (b : Int) < 16777216 := by omega
        clear h1 hs
        go_enter Tryd.func73, Tryd.ntmps73
        go_wp2
        go_ret
        exact ⟨rfl, (Below.refl _ _).alloc (Nat.le_refl _) _⟩
      · rw [validS_or (fun h => h3 (or_lt24.1 h).2)] at hr
        subst hr
        obtain ⟨a, b⟩ := s
        simp only [] at *
        rw [h1] at e1
        have h2I : (a : Int) < 16777216 := by omega
        have h3I : ¬ (b : Int) < 16777216 := by omega
        clear h1 hs
        go_enter Tryd.func73, Tryd.ntmps73
        go_wp2
        go_ret
        exact ⟨rfl, (Below.refl _ _).alloc (Nat.le_refl _) _⟩
    · rw [validS_or (fun h => h2 (or_lt24.1 h).1)] at hr
      subst hr
      obtain ⟨a, b⟩ := s
      simp only [] at *
      rw [h1] at e1
      have h2I : ¬ (a : Int) < 16777216 := by omega
      clear h1 hs
      go_enter Tryd.func73, Tryd.ntmps73
      go_wp2
      go_ret
      exact ⟨rfl, (Below.refl _ _).alloc (Nat.le_refl _) _⟩
  · rw [validS_and h1] at hr
    subst hr
    obtain ⟨a, b⟩ := s
    simp only [] at *
    generalize a &&& b = x at *
    have h1I : ((x : Int) == 0) = false := by rw [beq_eq_false_iff_ne]; omega
    clear h1 hs
    go_enter Tryd.func73, Tryd.ntmps73
    go_wp2
    go_ret
    exact ⟨rfl, (Below.refl _ _).alloc (Nat.le_refl _) _⟩
set_option maxRecDepth 20000 in
theorem fvalid_any (s : Snd) (w : World) (hs : ok32 s) : Calls Tryd.prog 53 #[sndV s] w fun e w' => e = .returned (.bool (validS s)) ∧ Below w.heap.size w w' := by
  have e1 := u32_and_nat s.1 s.2 hs.1 hs.2
  have e2 := u32_or_nat s.1 s.2 hs.1 hs.2
  obtain ⟨r, hr⟩ : ∃ r, validS s = r := ⟨_, rfl⟩
  rw [hr]
  by_cases h1 : s.1 &&& s.2 = 0
  · by_cases h2 : s.1 ||| s.2 < 16777216
    · rw [validS_true h1 h2] at hr
      subst hr
      obtain ⟨a, b⟩ := s
      simp only [] at *
      rw [h1] at e1
      generalize a ||| b = y at *
      have h2I : (y : Int) ≤ 16777215 := by omega
      clear h1 hs
      go_enter Tryd.func53, Tryd.ntmps53
      go_wp2
      go_ret
      exact ⟨rfl, (Below.refl _ _).alloc (Nat.le_refl _) _⟩
    · rw [validS_or h2] at hr
      subst hr
      obtain ⟨a, b⟩ := s
      simp only [] at *
      rw [h1] at e1
      generalize a ||| b = y at *
      have h2I : ¬ (y : Int) ≤ 16777215 := by omega
      clear h1 hs
      go_enter Tryd.func53, Tryd.ntmps53
      go_wp2
      go_ret
      exact ⟨rfl, (Below.refl _ _).alloc (Nat.le_refl _) _⟩
  · rw [validS_and h1] at hr
    subst hr
    obtain ⟨a, b⟩ := s
    simp only [] at *
    generalize a &&& b = x at *
    have h1I : ((x : Int) == 0) = false := by rw [beq_eq_false_iff_ne]; omega
    clear h1 hs
    go_enter Tryd.func53, Tryd.ntmps53
    go_wp2
    go_ret
    exact ⟨rfl, (Below.refl _ _).alloc (Nat.le_refl _) _⟩
set_option maxRecDepth 20000 in
theorem pvalid_any (s : Snd) (w : World) (hs : ok32 s) : Calls Tryd.prog 105 #[sndV s] w fun e w' => e = .returned (.bool (validS s)) ∧ Below w.heap.size w w' := by
  have e1 := u32_and_nat s.1 s.2 hs.1 hs.2
  have e2 := u32_or_nat s.1 s.2 hs.1 hs.2
  have h32 : s.1 ||| s.2 < 4294967296 := Nat.or_lt_two_pow (n := 32) hs.1 hs.2
  obtain ⟨r, hr⟩ : ∃ r, validS s = r := ⟨_, rfl⟩
  rw [hr]
  by_cases h1 : s.1 &&& s.2 = 0
  · by_cases h2 : s.1 ||| s.2 < 16777216
    · rw [validS_true h1 h2] at hr
      subst hr
      obtain ⟨a, b⟩ := s
      simp only [] at *
      rw [h1] at e1
      generalize a ||| b = y at *
      have h2I : (y : Int) / 16777216 = 0 := by omega
      clear h1 hs
      go_enter Tryd.func105, Tryd.ntmps105
      go_wp2
      go_ret
      exact ⟨rfl, (Below.refl _ _).alloc (Nat.le_refl _) _⟩
    · rw [validS_or h2] at hr
      subst hr
      obtain ⟨a, b⟩ := s
      simp only [] at *
      rw [h1] at e1
      generalize a ||| b = y at *
      have h2I : ((y : Int) / 16777216 == 0) = false := by rw [beq_eq_false_iff_ne]; omega
      clear h1 hs
      go_enter Tryd.func105, Tryd.ntmps105
      go_wp2
      go_ret
      exact ⟨rfl, (Below.refl _ _).alloc (Nat.le_refl _) _⟩
  · rw [validS_and h1] at hr
    subst hr
    obtain ⟨a, b⟩ := s
    simp only [] at *
    generalize a &&& b = x at *
    have h1I : ((x : Int) == 0) = false := by rw [beq_eq_false_iff_ne]; omega
    clear h1 hs
    go_enter Tryd.func105, Tryd.ntmps105
    go_wp2
    go_ret
    exact ⟨rfl, (Below.refl _ _).alloc (Nat.le_refl _) _⟩
/-! The reference's layer 1 looks at the bits. -/
def bitOk (s : Snd) (f : Nat) : Bool := !(s.1.testBit f && s.2.testBit f) && !((s.1.testBit f || s.2.testBit f) && decide (24 ≤ f))
theorem lt24_bits {n : Nat} (h : n < 4294967296) : n < 16777216 ↔ ∀ f, 24 ≤ f → f < 32 → n.testBit f = false := by
  constructor
  · intro h' f hf _
    exact Nat.testBit_lt_two_pow (Nat.lt_of_lt_of_le h' (Nat.pow_le_pow_right (by decide) hf : 2 ^ 24 ≤ 2 ^ f))
  · intro h'
    refine Nat.lt_pow_two_of_testBit (n := 24) n fun i hi => ?_
    rcases Nat.lt_or_ge i 32 with h2 | h2
    · exact h' i hi h2
    · exact Nat.testBit_lt_two_pow (Nat.lt_of_lt_of_le h (Nat.pow_le_pow_right (by decide) h2 : 2 ^ 32 ≤ 2 ^ i))
theorem validS_bits {s : Snd} (hs : ok32 s) : validS s = (List.range 32).all (bitOk s) := by
  rw [Bool.eq_iff_iff, List.all_eq_true]
  unfold validS
  rw [decide_eq_true_iff, or_lt24, lt24_bits hs.1, lt24_bits hs.2]
  constructor
  · rintro ⟨h1, h2, h3⟩ f hf
    have hf' := List.mem_range.1 hf
    have h4 : (s.1.testBit f && s.2.testBit f) = false := by rw [← Nat.testBit_and, h1, Nat.zero_testBit]
    unfold bitOk
    rw [h4]
    by_cases h24 : 24 ≤ f
    · rw [h2 f h24 hf', h3 f h24 hf']; rfl
    · rw [decide_eq_false h24, Bool.and_false]; rfl
  · intro h
    have h' : ∀ f, f < 32 → bitOk s f = true := fun f hf => h f (List.mem_range.2 hf)
    refine ⟨Nat.eq_of_testBit_eq fun f => ?_, fun f h24 h32 => ?_, fun f h24 h32 => ?_⟩
    · rw [Nat.testBit_and, Nat.zero_testBit]
      rcases Nat.lt_or_ge f 32 with h2 | h2
      · have := h' f h2
        unfold bitOk at this
        cases h5 : (s.1.testBit f && s.2.testBit f)
        · rfl
        · rw [h5] at this; cases this
      · rw [Nat.testBit_lt_two_pow (Nat.lt_of_lt_of_le hs.1 (Nat.pow_le_pow_right (by decide) h2 : 2 ^ 32 ≤ 2 ^ f))]; rfl
    · have := h' f h32
      unfold bitOk at this
      rw [decide_eq_true h24] at this
      cases h5 : s.1.testBit f
      · rfl
      · rw [h5] at this; simp at this
    · have := h' f h32
      unfold bitOk at this
      rw [decide_eq_true h24] at this
      cases h5 : s.2.testBit f
      · rfl
      · rw [h5] at this; simp at this
end Go.Proofs.YtipfhamhiaeieaaDoor
