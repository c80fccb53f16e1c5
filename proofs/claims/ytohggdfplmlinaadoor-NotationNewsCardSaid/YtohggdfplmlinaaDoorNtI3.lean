/-
  layer 3: which sounds belong to an inventory; its parts. Conditions: an inventory in memory.
-/
import Derived.Test.YtohggdfplmlinaaDoorNtI2
namespace Go.Proofs.YtohggdfplmlinaaDoor
open Go.RowKit Go.Lib

theorem mask_bit (n i : Nat) (hn : n ≤ 32) : (4294967295 - (2 ^ n - 1)).testBit i = (decide (i < 32) && !decide (i < n)) := by
  have hp : 0 < 2 ^ n := Nat.two_pow_pos n
  have hle : 2 ^ n ≤ 2 ^ 32 := Nat.pow_le_pow_right (by decide) hn
  have e : 4294967295 - (2 ^ n - 1) = 2 ^ 32 - ((2 ^ n - 1) + 1) := by omega
  rw [e, Nat.testBit_two_pow_sub_succ (by omega), Nat.testBit_two_pow_sub_one]
theorem mask0 {o n : Nat} (ho : o < 4294967296) (hn : n ≤ 32) : o &&& (4294967295 - (2 ^ n - 1)) = 0 ↔ o < 2 ^ n := by
  constructor
  · intro h
    refine Nat.lt_pow_two_of_testBit _ fun i hi => ?_
    by_cases h32 : i < 32
    · have hb := congrArg (fun x => x.testBit i) h
      simp only [Nat.testBit_and, mask_bit n i hn, Nat.zero_testBit, decide_eq_true h32, decide_eq_false (show ¬ i < n by omega), Bool.not_false, Bool.and_self, Bool.and_true] at hb
      exact hb
    · exact Nat.testBit_lt_two_pow (Nat.lt_of_lt_of_le ho (Nat.pow_le_pow_right (n := 2) (by decide) (show 32 ≤ i by omega)))
  · intro h
    refine Nat.eq_of_testBit_eq fun i => ?_
    rw [Nat.zero_testBit, Nat.testBit_and, mask_bit n i hn]
    by_cases hi : i < n
    · rw [decide_eq_true hi]; simp
    · rw [Nat.testBit_lt_two_pow (Nat.lt_of_lt_of_le h (Nat.pow_le_pow_right (by decide) (by omega)))]; rfl
theorem pow_int {n : Nat} (hn : n ≤ 24) : ((2 : Int) ^ n - 1) % 4294967296 = ((2 ^ n - 1 : Nat) : Int) := by
  have hp : 0 < 2 ^ n := Nat.two_pow_pos n
  have hle : 2 ^ n ≤ 2 ^ 24 := Nat.pow_le_pow_right (by decide) hn
  have e : ((2 : Int) ^ n) = ((2 ^ n : Nat) : Int) := by simp
  rw [e]
  omega
set_option maxRecDepth 20000 in
theorem belongs_any {w : World} {S : Nat → Prop} {g : Nat} {fs : List ByteArray} {L : List Nam} (s : Snd) (h : InvM w S g fs L) (hs : ok32 s) : Calls Tryd.prog 33 #[wptr g, sndV s] w fun e w' => e = .returned (.bool (belongs fs.length s)) ∧ Below w.heap.size w w' := by
  obtain ⟨A, c, A2, c2, b1, b2, b3, f2, f3, h1, -, -, -, -⟩ := h.parts
  have hf24 := h.ok.f24
  have hgl := h1.lt
  have c0 := h1.cell 0
  simp only [List.getElem?_toArray, List.getElem?_cons_zero] at c0
  have e1 := u32_and_nat s.1 s.2 hs.1 hs.2
  have e2 := u32_or_nat s.1 s.2 hs.1 hs.2
  have h32 : s.1 ||| s.2 < 4294967296 := Nat.or_lt_two_pow (n := 32) hs.1 hs.2
  have hp := pow_int hf24
  have hm : 2 ^ fs.length - 1 < 4294967296 := by have := Nat.pow_le_pow_right (n := 2) (by decide) hf24; omega
  have e3 := u32_andNot_nat (s.1 ||| s.2) (2 ^ fs.length - 1) h32 hm
  have hq := mask0 h32 (show fs.length ≤ 32 by omega)
  obtain ⟨r, hr⟩ : ∃ r, belongs fs.length s = r := ⟨_, rfl⟩
  rw [hr]
  have hr' : decide (s.1 &&& s.2 = 0 ∧ (s.1 ||| s.2) &&& (4294967295 - (2 ^ fs.length - 1)) = 0) = r := by
    rw [← hr]; exact decide_eq_decide.2 (and_congr_right fun _ => hq)
  replace hr := hr'
  clear hr'
  generalize fs.length = n at *
  obtain ⟨x, y⟩ := s
  simp only [] at *
  clear h1 h hs hq
  generalize (x ||| y) &&& (4294967295 - (2 ^ n - 1)) = q at *
  generalize 2 ^ n - 1 = m at *
  generalize x ||| y = o at *
  generalize x &&& y = a at *
  by_cases ha : a = 0
  · subst ha
    by_cases hq0 : q = 0
    · subst hq0
      obtain rfl : r = true := by rw [← hr]; simp
      clear hr
      go_enter Tryd.func33, Tryd.ntmps33
      go_wp2
      go_ret
      exact ⟨rfl, (Below.refl _ _).alloc (Nat.le_refl _) _⟩
    · obtain rfl : r = false := by rw [← hr]; simp [hq0]
      have hqI : ((q : Int) == 0) = false := by rw [beq_eq_false_iff_ne]; omega
      clear hr hq0
      go_enter Tryd.func33, Tryd.ntmps33
      go_wp2
      go_ret
      exact ⟨rfl, (Below.refl _ _).alloc (Nat.le_refl _) _⟩
  · obtain rfl : r = false := by rw [← hr]; simp [ha]
    have haI : ((a : Int) == 0) = false := by rw [beq_eq_false_iff_ne]; omega
    clear hr ha
    go_enter Tryd.func33, Tryd.ntmps33
    go_wp2
    go_ret
    exact ⟨rfl, (Below.refl _ _).alloc (Nat.le_refl _) _⟩
set_option maxRecDepth 20000 in
theorem feats_any {w : World} {S : Nat → Prop} {g : Nat} {fs : List ByteArray} {L : List Nam} (h : InvM w S g fs L) : Calls Tryd.prog 35 #[wptr g] w fun e w' => ∃ v, e = .returned v ∧ w'.ownsRow w.heap.size 9 1 v fs.length (fs.map Value.string) ∧ Below w.heap.size w w' := by
  obtain ⟨A, c, A2, c2, b1, b2, b3, f2, f3, h1, hr, -, -, -⟩ := h.parts
  have c0 := h1.cell 0
  simp only [List.getElem?_toArray, List.getElem?_cons_zero] at c0
  have hm := made_any h
  have hc := cloneS_any A fs.length c _ w w.heap.size hr (strC_one fs) (Nat.le_refl _) (by have := h.ok.f24; omega)
  have HM := Lib.hid hm; have HC := Lib.hid hc
  clear h1 h hr hm hc
  go_enter Tryd.func35, Tryd.ntmps35
  go_wp2_with (go_at_call 30; refine HM.out.mono ?_; rintro e w' ⟨rfl, rfl⟩)
  refine HC.out.mono ?_
  rintro e w1 ⟨v, rfl, ho, hb⟩
  have HO := Lib.hid ho; have HB := Lib.hid hb
  clear ho hb
  go_wp2
  go_ret
  exact ⟨_, rfl, HO.out, HB.out⟩
set_option maxRecDepth 20000 in
theorem sounds_any {w : World} {S : Nat → Prop} {g : Nat} {fs : List ByteArray} {L : List Nam} (h : InvM w S g fs L) : Calls Tryd.prog 52 #[wptr g] w fun e w' => ∃ v, e = .returned v ∧ w'.ownsRow w.heap.size 41 3 v L.length (L.flatMap namC) ∧ Below w.heap.size w w' := by
  obtain ⟨A, c, A2, c2, b1, b2, b3, f2, f3, h1, -, hr, -, -⟩ := h.parts
  have c0 := h1.cell 2
  simp only [List.getElem?_toArray, List.getElem?_cons_zero, List.getElem?_cons_succ] at c0
  have hm := made_any h
  have hc := cloneN_any A2 L.length c2 _ w w.heap.size hr (namC_one L) (Nat.le_refl _) (by have := h.ok.l256; omega)
  have HM := Lib.hid hm; have HC := Lib.hid hc
  clear h1 h hr hm hc
  go_enter Tryd.func52, Tryd.ntmps52
  go_wp2_with (go_at_call 30; refine HM.out.mono ?_; rintro e w' ⟨rfl, rfl⟩)
  refine HC.out.mono ?_
  rintro e w1 ⟨v, rfl, ho, hb⟩
  have HO := Lib.hid ho; have HB := Lib.hid hb
  clear ho hb
  go_wp2
  go_ret
  exact ⟨_, rfl, HO.out, HB.out⟩
end Go.Proofs.YtohggdfplmlinaaDoor
