/-
  layer 43: whether an element of Out is valid: the program's fits and the reference's. Conditions: numbers of 32 bits; at most 2^63 - 1 conditions.
-/
import Derived.Test.YtmepaeahchiglaaGreatDoorZaPkNm
namespace Go.Proofs.YtmepaeahchiglaaGreatDoor
open Go.RowKit Go.Lib

theorem mask_zero {n : Nat} (h : n < 4294967296) : n &&& 4278190080 = 0 ↔ n < 16777216 := by
  rw [lt24_bits h]
  have hm : ∀ f : Fin 32, (4278190080 : Nat).testBit f.val = decide (24 ≤ f.val) := by decide
  constructor
  · intro e f h24 h32
    have h1 : (n &&& 4278190080).testBit f = false := by rw [e]; exact Nat.zero_testBit f
    rw [Nat.testBit_and, hm ⟨f, h32⟩, decide_eq_true h24, Bool.and_true] at h1
    exact h1
  · intro hb
    refine Nat.eq_of_testBit_eq fun f => ?_
    rw [Nat.testBit_and, Nat.zero_testBit]
    rcases Nat.lt_or_ge f 32 with h32 | h32
    · rw [hm ⟨f, h32⟩]
      by_cases h24 : 24 ≤ f
      · rw [hb f h24 h32]; rfl
      · rw [decide_eq_false h24, Bool.and_false]
    · rw [Nat.testBit_lt_two_pow (Nat.lt_of_lt_of_le h (Nat.pow_le_pow_right (by decide) h32 : 2 ^ 32 ≤ 2 ^ f))]; rfl
def outOk (x : Ot) (k : Int) : Bool :=
  decide (-1 ≤ x.src ∧ x.src < k) && (validS x.set && (decide (x.clear < 16777216 ∧ x.take < 16777216) && (decide (x.clear &&& (x.set.1 ||| x.set.2) = 0 ∧ x.take &&& (x.set.1 ||| x.set.2) = 0 ∧ x.take &&& x.clear = 0) &&
    (if x.take = 0 then decide (x.ref = 0) else decide (0 ≤ x.ref ∧ x.ref < k)))))
theorem and_or_zero {a b c : Nat} : a &&& (b ||| c) = 0 ↔ a &&& b = 0 ∧ a &&& c = 0 := by
  rw [Nat.and_or_distrib_left, Nat.or_eq_zero_iff]
section
variable {src ref k : Int} {clear take : Nat} {set : Snd}
theorem outOk_src (h : ¬ (-1 ≤ src ∧ src < k)) : outOk ⟨src, clear, set, take, ref⟩ k = false := by
  unfold outOk; rw [decide_eq_false h]; rfl
theorem outOk_set (h : validS set = false) : outOk ⟨src, clear, set, take, ref⟩ k = false := by
  unfold outOk; simp only; rw [h]; simp
theorem outOk_mask (h : ¬ (clear < 16777216 ∧ take < 16777216)) : outOk ⟨src, clear, set, take, ref⟩ k = false := by
  unfold outOk; simp only; rw [decide_eq_false h]; simp
theorem outOk_own (h : ¬ (clear &&& (set.1 ||| set.2) = 0 ∧ take &&& (set.1 ||| set.2) = 0 ∧ take &&& clear = 0)) : outOk ⟨src, clear, set, take, ref⟩ k = false := by
  unfold outOk; simp only; rw [decide_eq_false h]; simp
theorem outOk_rest (h1 : -1 ≤ src ∧ src < k) (h2 : validS set = true) (h3 : clear < 16777216 ∧ take < 16777216) (h4 : clear &&& (set.1 ||| set.2) = 0 ∧ take &&& (set.1 ||| set.2) = 0 ∧ take &&& clear = 0) :
    outOk ⟨src, clear, set, take, ref⟩ k = if take = 0 then decide (ref = 0) else decide (0 ≤ ref ∧ ref < k) := by
  unfold outOk; simp only; rw [decide_eq_true h1, h2, decide_eq_true h3, decide_eq_true h4]; simp
end
set_option maxRecDepth 20000 in
set_option maxHeartbeats 4000000 in
theorem fits_any (x : Ot) (k : Nat) (w : World) (hcl : is32 x.clear) (hset : ok32 x.set) (htk : is32 x.take) : Calls Tryz.prog 66 #[outV x, .int .i64 k] w fun e w' => e = .returned (.bool (outOk x k)) ∧ Below w.heap.size w w' := by
  obtain ⟨src, clear, set, take, ref⟩ := x
  simp only at *
  have hB := Blk.new w 90 #[.int .i64 src, .int .u32 clear, .int .u32 set.1, .int .u32 set.2, .int .u32 take, .int .i64 ref]
  have hb0 := (Below.refl w.heap.size w).alloc (Nat.le_refl _) (.cells #[.int .i64 src, .int .u32 clear, .int .u32 set.1, .int .u32 set.2, .int .u32 take, .int .i64 ref] 90)
  have hor : bits .or .u32 (set.1 : Int) set.2 = ((set.1 ||| set.2 : Nat) : Int) := u32_or_nat _ _ hset.1 hset.2
  have hsl : set.1 ||| set.2 < 4294967296 := Nat.or_lt_two_pow (n := 32) hset.1 hset.2
  have hctl : clear ||| take < 4294967296 := Nat.or_lt_two_pow (n := 32) hcl htk
  have hoct : bits .or .u32 (clear : Int) take = ((clear ||| take : Nat) : Int) := u32_or_nat _ _ hcl htk
  have hm1 : bits .andNot .u32 ((clear ||| take : Nat) : Int) 16777215 = (((clear ||| take) &&& 4278190080 : Nat) : Int) := u32_andNot_nat _ 16777215 hctl (by decide)
  have hmc : bits .andNot .u32 (clear : Int) 16777215 = ((clear &&& 4278190080 : Nat) : Int) := u32_andNot_nat _ 16777215 hcl (by decide)
  have hmt : bits .andNot .u32 (take : Int) 16777215 = ((take &&& 4278190080 : Nat) : Int) := u32_andNot_nat _ 16777215 htk (by decide)
  have ha1 : bits .and .u32 (clear : Int) ((set.1 ||| set.2 : Nat) : Int) = ((clear &&& (set.1 ||| set.2) : Nat) : Int) := u32_and_nat _ _ hcl hsl
  have ha2 : bits .and .u32 (take : Int) ((set.1 ||| set.2 : Nat) : Int) = ((take &&& (set.1 ||| set.2) : Nat) : Int) := u32_and_nat _ _ htk hsl
  have ha3 : bits .and .u32 (take : Int) clear = ((take &&& clear : Nat) : Int) := u32_and_nat _ _ htk hcl
  have hsol : (set.1 ||| set.2) ||| clear < 4294967296 := Nat.or_lt_two_pow (n := 32) hsl hcl
  have hoo : bits .or .u32 ((set.1 ||| set.2 : Nat) : Int) clear = (((set.1 ||| set.2) ||| clear : Nat) : Int) := u32_or_nat _ _ hsl hcl
  have ha4 : bits .and .u32 (take : Int) (((set.1 ||| set.2) ||| clear : Nat) : Int) = ((take &&& ((set.1 ||| set.2) ||| clear) : Nat) : Int) := u32_and_nat _ _ htk hsol
  have hmz1 : (clear ||| take) &&& 4278190080 = 0 ↔ clear < 16777216 ∧ take < 16777216 := by rw [mask_zero hctl, or_lt24]
  have hmz2 := mask_zero hcl
  have hmz3 := mask_zero htk
  have haz : take &&& ((set.1 ||| set.2) ||| clear) = 0 ↔ take &&& (set.1 ||| set.2) = 0 ∧ take &&& clear = 0 := and_or_zero
  have hvc := fun W => fvalid_any set W hset
  have E1 := @outOk_src src ref k clear take set; have E2 := @outOk_set src ref k clear take set; have E3 := @outOk_mask src ref k clear take set; have E4 := @outOk_own src ref k clear take set; have E5 := @outOk_rest src ref k clear take set
  obtain ⟨res, hres⟩ : ∃ res, outOk ⟨src, clear, set, take, ref⟩ k = res := ⟨_, rfl⟩
  rw [hres] at E1 E2 E3 E4 E5 ⊢
  generalize (clear ||| take) &&& 4278190080 = y1 at *
  generalize clear &&& 4278190080 = z1 at *
  generalize take &&& 4278190080 = z2 at *
  generalize take &&& ((set.1 ||| set.2) ||| clear) = y3 at *
  generalize (set.1 ||| set.2) ||| clear = so at *
  generalize clear &&& (set.1 ||| set.2) = y2 at *
  generalize take &&& (set.1 ||| set.2) = y4 at *
  generalize take &&& clear = y5 at *
  generalize set.1 ||| set.2 = so0 at *
  generalize clear ||| take = ct at *
  have HB := Lib.hid hB; have HB0 := Lib.hid hb0; have HVC := Lib.hid hvc
  have HE1 := Lib.hid E1
  have HE2 := Lib.hid E2
  have HE3 := Lib.hid E3
  have HE4 := Lib.hid E4
  have HE5 := Lib.hid E5
  have HMZ1 := Lib.hid hmz1; have HMZ2 := Lib.hid hmz2; have HMZ3 := Lib.hid hmz3; have HAZ := Lib.hid haz
  clear hB hb0 hvc E1 E2 E3 E4 E5 hmz1 hmz2 hmz3 haz hres hsl hctl hsol hcl htk
  by_cases h1 : src < -1
  case pos =>
    have e0 : res = false := HE1.out (by omega)
    subst e0
    go_enter Tryz.func66, Tryz.ntmps66
    go_wp2
    go_ret
    exact ⟨rfl, HB0.out⟩
  by_cases h2 : src < k
  case neg =>
    have h1I : ¬ src < -1 := h1
    have h1d : decide (src < -1) = false := decide_eq_false h1
    have h2I : (k : Int) ≤ src := by omega
    have e0 : res = false := HE1.out (by omega)
    subst e0
    go_enter Tryz.func66, Tryz.ntmps66
    go_wp2
    go_ret
    exact ⟨rfl, HB0.out⟩
  have h1I : ¬ src < -1 := h1
  have h1d : decide (src < -1) = false := decide_eq_false h1
  have h2I : ¬ (k : Int) ≤ src := by omega
  have h2d : decide ((k : Int) ≤ src) = false := decide_eq_false h2I
  cases hv : validS set
  · have HV := Lib.hid hv
    have h0 := HE2.out hv
    clear hv
    have e0 : res = false := h0
    subst e0
    go_enter Tryz.func66, Tryz.ntmps66
    go_wp2_with fail
    refine (HVC.out _).mono ?_
    rw [HV.out]
    rintro e w1 ⟨rfl, hb1⟩
    obtain ⟨c0, c1, c2, c3, c4, c5⟩ := (HB.out.below hb1 HB.out.lt).six
    have HB1 := Lib.hid hb1
    clear hb1
    go_wp2
    go_ret
    exact ⟨rfl, HB0.out.trans (HB1.out.mono HB0.out.size)⟩
  have HV := Lib.hid hv
  clear hv
  by_cases my1 : y1 = 0
  case neg =>
    have by1 : ((y1 : Int) != 0) = true := by rw [bne_iff_ne]; omega
    have e0 : res = false := HE3.out (fun h => my1 (HMZ1.out.2 h))
    subst e0
    go_enter Tryz.func66, Tryz.ntmps66
    go_wp2_with fail
    refine (HVC.out _).mono ?_
    rw [HV.out]
    rintro e w1 ⟨rfl, hb1⟩
    obtain ⟨c0, c1, c2, c3, c4, c5⟩ := (HB.out.below hb1 HB.out.lt).six
    have HB1 := Lib.hid hb1
    clear hb1
    go_wp2
    go_ret
    exact ⟨rfl, HB0.out.trans (HB1.out.mono HB0.out.size)⟩
  have by1 : ((y1 : Int) != 0) = false := by rw [bne_eq_false_iff_eq]; omega
  have HM := Lib.hid (HMZ1.out.1 my1)
  by_cases my2 : y2 = 0
  case neg =>
    have by2 : ((y2 : Int) != 0) = true := by rw [bne_iff_ne]; omega
    have e0 : res = false := HE4.out (fun h => my2 h.1)
    subst e0
    go_enter Tryz.func66, Tryz.ntmps66
    go_wp2_with fail
    refine (HVC.out _).mono ?_
    rw [HV.out]
    rintro e w1 ⟨rfl, hb1⟩
    obtain ⟨c0, c1, c2, c3, c4, c5⟩ := (HB.out.below hb1 HB.out.lt).six
    have HB1 := Lib.hid hb1
    clear hb1
    go_wp2
    go_ret
    exact ⟨rfl, HB0.out.trans (HB1.out.mono HB0.out.size)⟩
  have by2 : ((y2 : Int) != 0) = false := by rw [bne_eq_false_iff_eq]; omega
  by_cases my3 : y3 = 0
  case neg =>
    have by3 : ((y3 : Int) != 0) = true := by rw [bne_iff_ne]; omega
    have e0 : res = false := HE4.out (fun h => my3 (HAZ.out.2 h.2))
    subst e0
    go_enter Tryz.func66, Tryz.ntmps66
    go_wp2_with fail
    refine (HVC.out _).mono ?_
    rw [HV.out]
    rintro e w1 ⟨rfl, hb1⟩
    obtain ⟨c0, c1, c2, c3, c4, c5⟩ := (HB.out.below hb1 HB.out.lt).six
    have HB1 := Lib.hid hb1
    clear hb1
    go_wp2
    go_ret
    exact ⟨rfl, HB0.out.trans (HB1.out.mono HB0.out.size)⟩
  have by3 : ((y3 : Int) != 0) = false := by rw [bne_eq_false_iff_eq]; omega
  have h0 := HE5.out ⟨by omega, h2⟩ HV.out HM.out ⟨my2, HAZ.out.1 my3⟩
  by_cases ht : take = 0
  · rw [if_pos ht] at h0
    have bt : ((take : Int) == 0) = true := by rw [beq_iff_eq]; omega
    by_cases hr : ref = 0
    · rw [decide_eq_true hr] at h0
      have br : (ref == 0) = true := by rw [beq_iff_eq]; exact hr
      clear ht hr
      have e0 : res = true := h0
      subst e0
      go_enter Tryz.func66, Tryz.ntmps66
      go_wp2_with fail
      refine (HVC.out _).mono ?_
      rw [HV.out]
      rintro e w1 ⟨rfl, hb1⟩
      obtain ⟨c0, c1, c2, c3, c4, c5⟩ := (HB.out.below hb1 HB.out.lt).six
      have HB1 := Lib.hid hb1
      clear hb1
      go_wp2
      go_ret
      exact ⟨rfl, HB0.out.trans (HB1.out.mono HB0.out.size)⟩
    · rw [decide_eq_false hr] at h0
      have br : (ref == 0) = false := by rw [beq_eq_false_iff_ne]; exact hr
      clear ht hr
      have e0 : res = false := h0
      subst e0
      go_enter Tryz.func66, Tryz.ntmps66
      go_wp2_with fail
      refine (HVC.out _).mono ?_
      rw [HV.out]
      rintro e w1 ⟨rfl, hb1⟩
      obtain ⟨c0, c1, c2, c3, c4, c5⟩ := (HB.out.below hb1 HB.out.lt).six
      have HB1 := Lib.hid hb1
      clear hb1
      go_wp2
      go_ret
      exact ⟨rfl, HB0.out.trans (HB1.out.mono HB0.out.size)⟩
  · rw [if_neg ht] at h0
    have bt : ((take : Int) == 0) = false := by rw [beq_eq_false_iff_ne]; omega
    by_cases hr : 0 ≤ ref
    · by_cases hr2 : ref < k
      · rw [decide_eq_true ⟨hr, hr2⟩] at h0
        clear ht
        have e0 : res = true := h0
        subst e0
        go_enter Tryz.func66, Tryz.ntmps66
        go_wp2_with fail
        refine (HVC.out _).mono ?_
        rw [HV.out]
        rintro e w1 ⟨rfl, hb1⟩
        obtain ⟨c0, c1, c2, c3, c4, c5⟩ := (HB.out.below hb1 HB.out.lt).six
        have HB1 := Lib.hid hb1
        clear hb1
        go_wp2
        go_ret
        exact ⟨rfl, HB0.out.trans (HB1.out.mono HB0.out.size)⟩
      · rw [decide_eq_false (fun h => hr2 h.2)] at h0
        have hr2d : decide (ref < (k : Int)) = false := decide_eq_false hr2
        clear ht
        have e0 : res = false := h0
        subst e0
        go_enter Tryz.func66, Tryz.ntmps66
        go_wp2_with fail
        refine (HVC.out _).mono ?_
        rw [HV.out]
        rintro e w1 ⟨rfl, hb1⟩
        obtain ⟨c0, c1, c2, c3, c4, c5⟩ := (HB.out.below hb1 HB.out.lt).six
        have HB1 := Lib.hid hb1
        clear hb1
        go_wp2
        go_ret
        exact ⟨rfl, HB0.out.trans (HB1.out.mono HB0.out.size)⟩
    · rw [decide_eq_false (fun h => hr h.1)] at h0
      have hrd : decide (0 ≤ ref) = false := decide_eq_false hr
      clear ht
      have e0 : res = false := h0
      subst e0
      go_enter Tryz.func66, Tryz.ntmps66
      go_wp2_with fail
      refine (HVC.out _).mono ?_
      rw [HV.out]
      rintro e w1 ⟨rfl, hb1⟩
      obtain ⟨c0, c1, c2, c3, c4, c5⟩ := (HB.out.below hb1 HB.out.lt).six
      have HB1 := Lib.hid hb1
      clear hb1
      go_wp2
      go_ret
      exact ⟨rfl, HB0.out.trans (HB1.out.mono HB0.out.size)⟩
set_option maxRecDepth 20000 in
set_option maxHeartbeats 4000000 in
theorem refFits_any (x : Ot) (k : Nat) (w : World) (hcl : is32 x.clear) (hset : ok32 x.set) (htk : is32 x.take) : Calls Tryz.prog 230 #[outV x, .int .i64 k] w fun e w' => e = .returned (.bool (outOk x k)) ∧ Below w.heap.size w w' := by
  obtain ⟨src, clear, set, take, ref⟩ := x
  simp only at *
  have hB := Blk.new w 90 #[.int .i64 src, .int .u32 clear, .int .u32 set.1, .int .u32 set.2, .int .u32 take, .int .i64 ref]
  have hb0 := (Below.refl w.heap.size w).alloc (Nat.le_refl _) (.cells #[.int .i64 src, .int .u32 clear, .int .u32 set.1, .int .u32 set.2, .int .u32 take, .int .i64 ref] 90)
  have hor : bits .or .u32 (set.1 : Int) set.2 = ((set.1 ||| set.2 : Nat) : Int) := u32_or_nat _ _ hset.1 hset.2
  have hsl : set.1 ||| set.2 < 4294967296 := Nat.or_lt_two_pow (n := 32) hset.1 hset.2
  have hctl : clear ||| take < 4294967296 := Nat.or_lt_two_pow (n := 32) hcl htk
  have hoct : bits .or .u32 (clear : Int) take = ((clear ||| take : Nat) : Int) := u32_or_nat _ _ hcl htk
  have hm1 : bits .andNot .u32 ((clear ||| take : Nat) : Int) 16777215 = (((clear ||| take) &&& 4278190080 : Nat) : Int) := u32_andNot_nat _ 16777215 hctl (by decide)
  have hmc : bits .andNot .u32 (clear : Int) 16777215 = ((clear &&& 4278190080 : Nat) : Int) := u32_andNot_nat _ 16777215 hcl (by decide)
  have hmt : bits .andNot .u32 (take : Int) 16777215 = ((take &&& 4278190080 : Nat) : Int) := u32_andNot_nat _ 16777215 htk (by decide)
  have ha1 : bits .and .u32 (clear : Int) ((set.1 ||| set.2 : Nat) : Int) = ((clear &&& (set.1 ||| set.2) : Nat) : Int) := u32_and_nat _ _ hcl hsl
  have ha2 : bits .and .u32 (take : Int) ((set.1 ||| set.2 : Nat) : Int) = ((take &&& (set.1 ||| set.2) : Nat) : Int) := u32_and_nat _ _ htk hsl
  have ha3 : bits .and .u32 (take : Int) clear = ((take &&& clear : Nat) : Int) := u32_and_nat _ _ htk hcl
  have hsol : (set.1 ||| set.2) ||| clear < 4294967296 := Nat.or_lt_two_pow (n := 32) hsl hcl
  have hoo : bits .or .u32 ((set.1 ||| set.2 : Nat) : Int) clear = (((set.1 ||| set.2) ||| clear : Nat) : Int) := u32_or_nat _ _ hsl hcl
  have ha4 : bits .and .u32 (take : Int) (((set.1 ||| set.2) ||| clear : Nat) : Int) = ((take &&& ((set.1 ||| set.2) ||| clear) : Nat) : Int) := u32_and_nat _ _ htk hsol
  have hmz1 : (clear ||| take) &&& 4278190080 = 0 ↔ clear < 16777216 ∧ take < 16777216 := by rw [mask_zero hctl, or_lt24]
  have hmz2 := mask_zero hcl
  have hmz3 := mask_zero htk
  have haz : take &&& ((set.1 ||| set.2) ||| clear) = 0 ↔ take &&& (set.1 ||| set.2) = 0 ∧ take &&& clear = 0 := and_or_zero
  have hvc := fun W => rvalid1_any set W hset
  have E1 := @outOk_src src ref k clear take set; have E2 := @outOk_set src ref k clear take set; have E3 := @outOk_mask src ref k clear take set; have E4 := @outOk_own src ref k clear take set; have E5 := @outOk_rest src ref k clear take set
  obtain ⟨res, hres⟩ : ∃ res, outOk ⟨src, clear, set, take, ref⟩ k = res := ⟨_, rfl⟩
  rw [hres] at E1 E2 E3 E4 E5 ⊢
  generalize (clear ||| take) &&& 4278190080 = y1 at *
  generalize clear &&& 4278190080 = z1 at *
  generalize take &&& 4278190080 = z2 at *
  generalize take &&& ((set.1 ||| set.2) ||| clear) = y3 at *
  generalize (set.1 ||| set.2) ||| clear = so at *
  generalize clear &&& (set.1 ||| set.2) = y2 at *
  generalize take &&& (set.1 ||| set.2) = y4 at *
  generalize take &&& clear = y5 at *
  generalize set.1 ||| set.2 = so0 at *
  generalize clear ||| take = ct at *
  have HB := Lib.hid hB; have HB0 := Lib.hid hb0; have HVC := Lib.hid hvc
  have HE1 := Lib.hid E1
  have HE2 := Lib.hid E2
  have HE3 := Lib.hid E3
  have HE4 := Lib.hid E4
  have HE5 := Lib.hid E5
  have HMZ1 := Lib.hid hmz1; have HMZ2 := Lib.hid hmz2; have HMZ3 := Lib.hid hmz3; have HAZ := Lib.hid haz
  clear hB hb0 hvc E1 E2 E3 E4 E5 hmz1 hmz2 hmz3 haz hres hsl hctl hsol hcl htk
  by_cases h1 : src < -1
  case pos =>
    have e0 : res = false := HE1.out (by omega)
    subst e0
    go_enter Tryz.func230, Tryz.ntmps230
    go_wp2
    go_ret
    exact ⟨rfl, HB0.out⟩
  by_cases h2 : src < k
  case neg =>
    have h1I : ¬ src < -1 := h1
    have h1d : decide (src < -1) = false := decide_eq_false h1
    have h2I : (k : Int) ≤ src := by omega
    have e0 : res = false := HE1.out (by omega)
    subst e0
    go_enter Tryz.func230, Tryz.ntmps230
    go_wp2
    go_ret
    exact ⟨rfl, HB0.out⟩
  have h1I : ¬ src < -1 := h1
  have h1d : decide (src < -1) = false := decide_eq_false h1
  have h2I : ¬ (k : Int) ≤ src := by omega
  have h2d : decide ((k : Int) ≤ src) = false := decide_eq_false h2I
  cases hv : validS set
  · have HV := Lib.hid hv
    have h0 := HE2.out hv
    clear hv
    have e0 : res = false := h0
    subst e0
    go_enter Tryz.func230, Tryz.ntmps230
    go_wp2_with fail
    refine (HVC.out _).mono ?_
    rw [HV.out]
    rintro e w1 ⟨rfl, hb1⟩
    obtain ⟨c0, c1, c2, c3, c4, c5⟩ := (HB.out.below hb1 HB.out.lt).six
    have HB1 := Lib.hid hb1
    clear hb1
    go_wp2
    go_ret
    exact ⟨rfl, HB0.out.trans (HB1.out.mono HB0.out.size)⟩
  have HV := Lib.hid hv
  clear hv
  by_cases mz1 : z1 = 0
  case neg =>
    have bz1 : ((z1 : Int) != 0) = true := by rw [bne_iff_ne]; omega
    have e0 : res = false := HE3.out (fun h => mz1 (HMZ2.out.2 h.1))
    subst e0
    go_enter Tryz.func230, Tryz.ntmps230
    go_wp2_with fail
    refine (HVC.out _).mono ?_
    rw [HV.out]
    rintro e w1 ⟨rfl, hb1⟩
    obtain ⟨c0, c1, c2, c3, c4, c5⟩ := (HB.out.below hb1 HB.out.lt).six
    have HB1 := Lib.hid hb1
    clear hb1
    go_wp2
    go_ret
    exact ⟨rfl, HB0.out.trans (HB1.out.mono HB0.out.size)⟩
  have bz1 : ((z1 : Int) != 0) = false := by rw [bne_eq_false_iff_eq]; omega
  by_cases mz2 : z2 = 0
  case neg =>
    have bz2 : ((z2 : Int) != 0) = true := by rw [bne_iff_ne]; omega
    have e0 : res = false := HE3.out (fun h => mz2 (HMZ3.out.2 h.2))
    subst e0
    go_enter Tryz.func230, Tryz.ntmps230
    go_wp2_with fail
    refine (HVC.out _).mono ?_
    rw [HV.out]
    rintro e w1 ⟨rfl, hb1⟩
    obtain ⟨c0, c1, c2, c3, c4, c5⟩ := (HB.out.below hb1 HB.out.lt).six
    have HB1 := Lib.hid hb1
    clear hb1
    go_wp2
    go_ret
    exact ⟨rfl, HB0.out.trans (HB1.out.mono HB0.out.size)⟩
  have bz2 : ((z2 : Int) != 0) = false := by rw [bne_eq_false_iff_eq]; omega
  have HM : Hid (clear < 16777216 ∧ take < 16777216) := Lib.hid ⟨HMZ2.out.1 mz1, HMZ3.out.1 mz2⟩
  by_cases my2 : y2 = 0
  case neg =>
    have by2 : ((y2 : Int) != 0) = true := by rw [bne_iff_ne]; omega
    have e0 : res = false := HE4.out (fun h => my2 h.1)
    subst e0
    go_enter Tryz.func230, Tryz.ntmps230
    go_wp2_with fail
    refine (HVC.out _).mono ?_
    rw [HV.out]
    rintro e w1 ⟨rfl, hb1⟩
    obtain ⟨c0, c1, c2, c3, c4, c5⟩ := (HB.out.below hb1 HB.out.lt).six
    have HB1 := Lib.hid hb1
    clear hb1
    go_wp2
    go_ret
    exact ⟨rfl, HB0.out.trans (HB1.out.mono HB0.out.size)⟩
  have by2 : ((y2 : Int) != 0) = false := by rw [bne_eq_false_iff_eq]; omega
  by_cases my4 : y4 = 0
  case neg =>
    have by4 : ((y4 : Int) != 0) = true := by rw [bne_iff_ne]; omega
    have e0 : res = false := HE4.out (fun h => my4 h.2.1)
    subst e0
    go_enter Tryz.func230, Tryz.ntmps230
    go_wp2_with fail
    refine (HVC.out _).mono ?_
    rw [HV.out]
    rintro e w1 ⟨rfl, hb1⟩
    obtain ⟨c0, c1, c2, c3, c4, c5⟩ := (HB.out.below hb1 HB.out.lt).six
    have HB1 := Lib.hid hb1
    clear hb1
    go_wp2
    go_ret
    exact ⟨rfl, HB0.out.trans (HB1.out.mono HB0.out.size)⟩
  have by4 : ((y4 : Int) != 0) = false := by rw [bne_eq_false_iff_eq]; omega
  by_cases my5 : y5 = 0
  case neg =>
    have by5 : ((y5 : Int) != 0) = true := by rw [bne_iff_ne]; omega
    have e0 : res = false := HE4.out (fun h => my5 h.2.2)
    subst e0
    go_enter Tryz.func230, Tryz.ntmps230
    go_wp2_with fail
    refine (HVC.out _).mono ?_
    rw [HV.out]
    rintro e w1 ⟨rfl, hb1⟩
    obtain ⟨c0, c1, c2, c3, c4, c5⟩ := (HB.out.below hb1 HB.out.lt).six
    have HB1 := Lib.hid hb1
    clear hb1
    go_wp2
    go_ret
    exact ⟨rfl, HB0.out.trans (HB1.out.mono HB0.out.size)⟩
  have by5 : ((y5 : Int) != 0) = false := by rw [bne_eq_false_iff_eq]; omega
  have h0 := HE5.out ⟨by omega, h2⟩ HV.out HM.out ⟨my2, my4, my5⟩
  by_cases ht : take = 0
  · rw [if_pos ht] at h0
    have bt : ((take : Int) == 0) = true := by rw [beq_iff_eq]; omega
    by_cases hr : ref = 0
    · rw [decide_eq_true hr] at h0
      have br : (ref == 0) = true := by rw [beq_iff_eq]; exact hr
      clear ht hr
      have e0 : res = true := h0
      subst e0
      go_enter Tryz.func230, Tryz.ntmps230
      go_wp2_with fail
      refine (HVC.out _).mono ?_
      rw [HV.out]
      rintro e w1 ⟨rfl, hb1⟩
      obtain ⟨c0, c1, c2, c3, c4, c5⟩ := (HB.out.below hb1 HB.out.lt).six
      have HB1 := Lib.hid hb1
      clear hb1
      go_wp2
      go_ret
      exact ⟨rfl, HB0.out.trans (HB1.out.mono HB0.out.size)⟩
    · rw [decide_eq_false hr] at h0
      have br : (ref == 0) = false := by rw [beq_eq_false_iff_ne]; exact hr
      clear ht hr
      have e0 : res = false := h0
      subst e0
      go_enter Tryz.func230, Tryz.ntmps230
      go_wp2_with fail
      refine (HVC.out _).mono ?_
      rw [HV.out]
      rintro e w1 ⟨rfl, hb1⟩
      obtain ⟨c0, c1, c2, c3, c4, c5⟩ := (HB.out.below hb1 HB.out.lt).six
      have HB1 := Lib.hid hb1
      clear hb1
      go_wp2
      go_ret
      exact ⟨rfl, HB0.out.trans (HB1.out.mono HB0.out.size)⟩
  · rw [if_neg ht] at h0
    have bt : ((take : Int) == 0) = false := by rw [beq_eq_false_iff_ne]; omega
    by_cases hr : 0 ≤ ref
    · by_cases hr2 : ref < k
      · rw [decide_eq_true ⟨hr, hr2⟩] at h0
        clear ht
        have e0 : res = true := h0
        subst e0
        go_enter Tryz.func230, Tryz.ntmps230
        go_wp2_with fail
        refine (HVC.out _).mono ?_
        rw [HV.out]
        rintro e w1 ⟨rfl, hb1⟩
        obtain ⟨c0, c1, c2, c3, c4, c5⟩ := (HB.out.below hb1 HB.out.lt).six
        have HB1 := Lib.hid hb1
        clear hb1
        go_wp2
        go_ret
        exact ⟨rfl, HB0.out.trans (HB1.out.mono HB0.out.size)⟩
      · rw [decide_eq_false (fun h => hr2 h.2)] at h0
        have hr2d : decide (ref < (k : Int)) = false := decide_eq_false hr2
        clear ht
        have e0 : res = false := h0
        subst e0
        go_enter Tryz.func230, Tryz.ntmps230
        go_wp2_with fail
        refine (HVC.out _).mono ?_
        rw [HV.out]
        rintro e w1 ⟨rfl, hb1⟩
        obtain ⟨c0, c1, c2, c3, c4, c5⟩ := (HB.out.below hb1 HB.out.lt).six
        have HB1 := Lib.hid hb1
        clear hb1
        go_wp2
        go_ret
        exact ⟨rfl, HB0.out.trans (HB1.out.mono HB0.out.size)⟩
    · rw [decide_eq_false (fun h => hr h.1)] at h0
      have hrd : decide (0 ≤ ref) = false := decide_eq_false hr
      clear ht
      have e0 : res = false := h0
      subst e0
      go_enter Tryz.func230, Tryz.ntmps230
      go_wp2_with fail
      refine (HVC.out _).mono ?_
      rw [HV.out]
      rintro e w1 ⟨rfl, hb1⟩
      obtain ⟨c0, c1, c2, c3, c4, c5⟩ := (HB.out.below hb1 HB.out.lt).six
      have HB1 := Lib.hid hb1
      clear hb1
      go_wp2
      go_ret
      exact ⟨rfl, HB0.out.trans (HB1.out.mono HB0.out.size)⟩
end Go.Proofs.YtmepaeahchiglaaGreatDoor
namespace Go.Proofs.YtmepaeahchiglaaGreatDoor
open Go.RowKit Go.Lib

/-- An error that is 0 exactly if something is so. -/
def ErrIff (w : World) (ok : Bool) (e : Ending) (w' : World) : Prop := ∃ x : Int, e = .returned (.int .i64 x) ∧ (x = 0 ↔ ok = true) ∧ Below w.heap.size w w'
theorem below2 {w : World} {o1 o2 : Obj} : Below w.heap.size w ((w.alloc o1).alloc o2) := ((Below.refl _ w).alloc (Nat.le_refl _) _).alloc (by simp) _
theorem below3 {w w1 : World} {o1 o2 : Obj} (h : Below ((w.alloc o1).alloc o2).heap.size ((w.alloc o1).alloc o2) w1) : Below w.heap.size w w1 := below2.trans (h.mono (by simp; omega))
theorem iff_no {x : Int} {b : Bool} (hx : x ≠ 0) (hb : b = false) : x = 0 ↔ b = true := ⟨fun h => absurd h hx, fun h => by rw [hb] at h; cases h⟩
theorem iff_yes {b : Bool} (hb : b = true) : (0 : Int) = 0 ↔ b = true := ⟨fun _ => hb, fun _ => rfl⟩
set_option maxRecDepth 20000 in
set_option maxHeartbeats 8000000 in
theorem allowed_026 (k : Int) (hk : k = 0 ∨ k = 2 ∨ k = 6) (a b : Nat) (neg : Bool) (lo hi : Int) (A : Option Addr) (n c : Nat) (w : World)  :
    Calls Tryz.prog 143 #[patV k (a, b) neg lo hi (.slice A n c)] w (ErrIff w (nodeOk k (a, b) neg lo hi n)) := by
  have hv := fun W => pvalid_any (0, 0) W ⟨by unfold is32; decide, by unfold is32; decide⟩
  have hv0 : validS (0, 0) = true := by decide
  rw [hv0] at hv
  have HV := Lib.hid hv
  clear hv hv0
  have hno : nodeOk k (a, b) neg lo hi n = (decide ((a, b) = ((0 : Nat), (0 : Nat))) && !neg && decide (lo = 0 ∧ hi = 0 ∧ n = 0)) := by unfold nodeOk; rw [if_neg (by omega), if_pos hk]
  rw [hno]
  clear hno
  obtain ⟨res, hres⟩ : ∃ res, (decide ((a, b) = ((0 : Nat), (0 : Nat))) && !neg && decide (lo = 0 ∧ hi = 0 ∧ n = 0)) = res := ⟨_, rfl⟩
  rw [hres]
  have HRES := Lib.hid hres
  clear hres
  rcases hk with rfl | rfl | rfl
  all_goals
    go_enter Tryz.func143, Tryz.ntmps143
    go_wp2_with (go_at_call 191; refine (HV.out _).mono ?_; rintro e w1 ⟨rfl, hb1⟩)
    all_goals go_ret
    all_goals first
      | (refine ⟨2, rfl, iff_no (by decide) ?_, below2⟩; rw [← HRES.out]; simp [*]; done)
      | (refine ⟨2, rfl, iff_no (by decide) ?_, below2⟩; rw [← HRES.out]; simp [*]; omega)
      | (refine ⟨0, rfl, iff_yes ?_, below3 hb1⟩; rw [← HRES.out]; simp [*]; done)
      | (refine ⟨0, rfl, iff_yes ?_, below3 hb1⟩; rw [← HRES.out]; simp [*]; omega)
      | (refine ⟨14, rfl, iff_no (by decide) ?_, below3 hb1⟩; rw [← HRES.out]; simp [*]; done)
      | (refine ⟨0, rfl, iff_yes ?_, below3 hb1⟩; rw [← HRES.out]; simp_all; omega)
set_option maxRecDepth 20000 in
set_option maxHeartbeats 8000000 in
theorem allowed_34 (k : Int) (hk : k = 3 ∨ k = 4) (a b : Nat) (neg : Bool) (lo hi : Int) (A : Option Addr) (n c : Nat) (w : World)  :
    Calls Tryz.prog 143 #[patV k (a, b) neg lo hi (.slice A n c)] w (ErrIff w (nodeOk k (a, b) neg lo hi n)) := by
  have hv := fun W => pvalid_any (0, 0) W ⟨by unfold is32; decide, by unfold is32; decide⟩
  have hv0 : validS (0, 0) = true := by decide
  rw [hv0] at hv
  have HV := Lib.hid hv
  clear hv hv0
  have hno : nodeOk k (a, b) neg lo hi n = (decide ((a, b) = ((0 : Nat), (0 : Nat))) && !neg && decide (lo = 0 ∧ hi = 0)) := by unfold nodeOk; rw [if_neg (by omega), if_neg (by omega), if_pos hk]
  rw [hno]
  clear hno
  obtain ⟨res, hres⟩ : ∃ res, (decide ((a, b) = ((0 : Nat), (0 : Nat))) && !neg && decide (lo = 0 ∧ hi = 0)) = res := ⟨_, rfl⟩
  rw [hres]
  have HRES := Lib.hid hres
  clear hres
  rcases hk with rfl | rfl
  all_goals
    go_enter Tryz.func143, Tryz.ntmps143
    go_wp2_with (go_at_call 191; refine (HV.out _).mono ?_; rintro e w1 ⟨rfl, hb1⟩)
    all_goals go_ret
    all_goals first
      | (refine ⟨2, rfl, iff_no (by decide) ?_, below2⟩; rw [← HRES.out]; simp [*]; done)
      | (refine ⟨2, rfl, iff_no (by decide) ?_, below2⟩; rw [← HRES.out]; simp [*]; omega)
      | (refine ⟨0, rfl, iff_yes ?_, below3 hb1⟩; rw [← HRES.out]; simp [*]; done)
      | (refine ⟨0, rfl, iff_yes ?_, below3 hb1⟩; rw [← HRES.out]; simp [*]; omega)
      | (refine ⟨14, rfl, iff_no (by decide) ?_, below3 hb1⟩; rw [← HRES.out]; simp [*]; done)
      | (refine ⟨0, rfl, iff_yes ?_, below3 hb1⟩; rw [← HRES.out]; simp_all; omega)
set_option maxRecDepth 20000 in
set_option maxHeartbeats 8000000 in
theorem allowed_1 (k : Int) (hk : k = 1) (a b : Nat) (neg : Bool) (lo hi : Int) (A : Option Addr) (n c : Nat) (w : World) (h32 : ok32 (a, b)) :
    Calls Tryz.prog 143 #[patV k (a, b) neg lo hi (.slice A n c)] w (ErrIff w (nodeOk k (a, b) neg lo hi n)) := by
  have hv := fun W => pvalid_any (a, b) W h32
  have HV := Lib.hid hv
  clear hv
  have hno : nodeOk k (a, b) neg lo hi n = (decide (lo = 0 ∧ hi = 0 ∧ n = 0) && validS (a, b)) := by unfold nodeOk; rw [if_pos hk]
  rw [hno]
  clear hno
  generalize validS (a, b) = va at *
  obtain ⟨res, hres⟩ : ∃ res, (decide (lo = 0 ∧ hi = 0 ∧ n = 0) && va) = res := ⟨_, rfl⟩
  rw [hres]
  have HRES := Lib.hid hres
  clear hres h32
  subst hk
  cases va
  all_goals
    go_enter Tryz.func143, Tryz.ntmps143
    go_wp2_with (go_at_call 191; refine (HV.out _).mono ?_; rintro e w1 ⟨rfl, hb1⟩)
    all_goals go_ret
    all_goals first
      | (refine ⟨2, rfl, iff_no (by decide) ?_, below2⟩; rw [← HRES.out]; simp [*]; done)
      | (refine ⟨2, rfl, iff_no (by decide) ?_, below2⟩; rw [← HRES.out]; simp [*]; omega)
      | (refine ⟨0, rfl, iff_yes ?_, below3 hb1⟩; rw [← HRES.out]; simp [*]; done)
      | (refine ⟨0, rfl, iff_yes ?_, below3 hb1⟩; rw [← HRES.out]; simp [*]; omega)
      | (refine ⟨14, rfl, iff_no (by decide) ?_, below3 hb1⟩; rw [← HRES.out]; simp [*]; done)
      | (refine ⟨0, rfl, iff_yes ?_, below3 hb1⟩; rw [← HRES.out]; simp_all; omega)
set_option maxRecDepth 20000 in
set_option maxHeartbeats 8000000 in
theorem allowed_5 (k : Int) (hk : k = 5) (a b : Nat) (neg : Bool) (lo hi : Int) (A : Option Addr) (n c : Nat) (w : World)  :
    Calls Tryz.prog 143 #[patV k (a, b) neg lo hi (.slice A n c)] w (ErrIff w (nodeOk k (a, b) neg lo hi n)) := by
  have hv := fun W => pvalid_any (0, 0) W ⟨by unfold is32; decide, by unfold is32; decide⟩
  have hv0 : validS (0, 0) = true := by decide
  rw [hv0] at hv
  have HV := Lib.hid hv
  clear hv hv0
  have hno : nodeOk k (a, b) neg lo hi n = (decide ((a, b) = ((0 : Nat), (0 : Nat))) && !neg && decide (n = 1 ∧ 0 ≤ lo ∧ lo ≤ 32 ∧ (hi = -1 ∨ (lo ≤ hi ∧ hi ≤ 32)))) := by unfold nodeOk; rw [if_neg (by omega), if_neg (by omega), if_neg (by omega), if_pos hk]
  rw [hno]
  clear hno
  obtain ⟨res, hres⟩ : ∃ res, (decide ((a, b) = ((0 : Nat), (0 : Nat))) && !neg && decide (n = 1 ∧ 0 ≤ lo ∧ lo ≤ 32 ∧ (hi = -1 ∨ (lo ≤ hi ∧ hi ≤ 32)))) = res := ⟨_, rfl⟩
  rw [hres]
  have HRES := Lib.hid hres
  clear hres
  subst hk
  all_goals
    go_enter Tryz.func143, Tryz.ntmps143
    go_wp2_with (go_at_call 191; refine (HV.out _).mono ?_; rintro e w1 ⟨rfl, hb1⟩)
    all_goals go_ret
    all_goals first
      | (refine ⟨2, rfl, iff_no (by decide) ?_, below2⟩; rw [← HRES.out]; simp [*]; done)
      | (refine ⟨2, rfl, iff_no (by decide) ?_, below2⟩; rw [← HRES.out]; simp [*]; omega)
      | (refine ⟨0, rfl, iff_yes ?_, below3 hb1⟩; rw [← HRES.out]; simp [*]; done)
      | (refine ⟨0, rfl, iff_yes ?_, below3 hb1⟩; rw [← HRES.out]; simp [*]; omega)
      | (refine ⟨14, rfl, iff_no (by decide) ?_, below3 hb1⟩; rw [← HRES.out]; simp [*]; done)
      | (refine ⟨0, rfl, iff_yes ?_, below3 hb1⟩; rw [← HRES.out]; simp_all; omega)
theorem allowed_else (k : Int) (h0 : ¬ k = 0) (h1 : ¬ k = 1) (h2 : ¬ k = 2) (h3 : ¬ k = 3) (h4 : ¬ k = 4) (h5 : ¬ k = 5) (h6 : ¬ k = 6) (a b : Nat) (neg : Bool) (lo hi : Int) (A : Option Addr) (n c : Nat) (w : World) :
    Calls Tryz.prog 143 #[patV k (a, b) neg lo hi (.slice A n c)] w (ErrIff w (nodeOk k (a, b) neg lo hi n)) := by
  have hno : nodeOk k (a, b) neg lo hi n = false := by unfold nodeOk; rw [if_neg (by omega), if_neg (by omega), if_neg (by omega), if_neg (by omega), Bool.and_false]
  rw [hno]
  clear hno
  go_enter Tryz.func143, Tryz.ntmps143
  go_wp2_with fail
  go_ret
  exact ⟨2, rfl, iff_no (by decide) rfl, below2⟩
theorem allowed_any (k : Int) (s : Snd) (neg : Bool) (lo hi : Int) (A : Option Addr) (n c : Nat) (w : World) (h32 : ok32 s) :
    Calls Tryz.prog 143 #[patV k s neg lo hi (.slice A n c)] w (ErrIff w (nodeOk k s neg lo hi n)) := by
  obtain ⟨a, b⟩ := s
  by_cases h0 : k = 0 ∨ k = 2 ∨ k = 6
  · exact allowed_026 k h0 a b neg lo hi A n c w
  · by_cases h3 : k = 3 ∨ k = 4
    · exact allowed_34 k h3 a b neg lo hi A n c w
    · by_cases h1 : k = 1
      · exact allowed_1 k h1 a b neg lo hi A n c w h32
      · by_cases h5 : k = 5
        · exact allowed_5 k h5 a b neg lo hi A n c w
        · exact allowed_else k (by omega) h1 (by omega) (by omega) (by omega) h5 (by omega) a b neg lo hi A n c w
end Go.Proofs.YtmepaeahchiglaaGreatDoor
