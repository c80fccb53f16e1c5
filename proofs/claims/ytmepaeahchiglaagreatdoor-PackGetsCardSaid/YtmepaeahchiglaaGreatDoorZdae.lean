/-
 layer 43: whether an element of Out is valid: the program's fits and the reference's. Conditions: numbers of 32 bits; at most 2^63 - 1 conditions.
-/
import Derived.Test.YtmepaeahchiglaaGreatDoorZdad
import Derived.RangeFuncNested
import Derived.RangeFuncBound
import Derived.Shelf.RegionOpen
import Derived.OwnWalkIn
import Derived.LoopNIn
import Derived.LoopIn
set_option maxRecDepth 20000
set_option maxHeartbeats 8000000
namespace Go.Proofs.YtmepaeahchiglaaGreatDoor
open Go.RowKit Go.Lib
theorem jk {n : Nat} (h : n < 4294967296) : n &&& 4278190080 = 0 ↔ n < 16777216 := by
 rw [qY h]
 have hm : ∀ f : Fin 32, (4278190080 : Nat).testBit f.val = decide (24 ≤ f.val) := by decide
 constructor
 ·intro e f h24 h32
  have h1 : (n &&& 4278190080).testBit f = false := by rw [e]; exact Nat.zero_testBit f
  rw [Nat.testBit_and, hm ⟨f, h32⟩, decide_eq_true h24, Bool.and_true] at h1
  exact h1
 ·intro hb
  refine Nat.eq_of_testBit_eq fun f => ?_
  rw [Nat.testBit_and, Nat.zero_testBit]
  rcases Nat.lt_or_ge f 32 with h32 | h32
  ·rw [hm ⟨f, h32⟩]
   by_cases h24 : 24 ≤ f
   ·rw [hb f h24 h32]; rfl
   ·rw [decide_eq_false h24, Bool.and_false]
  ·rw [Nat.testBit_lt_two_pow (Nat.lt_of_lt_of_le h (Nat.pow_le_pow_right (by decide) h32 : 2 ^ 32 ≤ 2 ^ f))]; rfl
def gZ (x : Ot) (k : Int) : Bool :=
 decide (-1 ≤ x.src ∧ x.src < k) && (ax x.set && (decide (x.clear < 16777216 ∧ x.take < 16777216) && (decide (x.clear &&& (x.set.1 ||| x.set.2) = 0 ∧ x.take &&& (x.set.1 ||| x.set.2) = 0 ∧ x.take &&& x.clear = 0) &&
  (if x.take = 0 then decide (x.ref = 0) else decide (0 ≤ x.ref ∧ x.ref < k)))))
theorem rZ {a b c : Nat} : a &&& (b ||| c) = 0 ↔ a &&& b = 0 ∧ a &&& c = 0 := by
 rw [Nat.and_or_distrib_left, Nat.or_eq_zero_iff]
section
variable {src ref k : Int} {clear take : Nat} {set : Snd}
theorem yh (h : ¬ (-1 ≤ src ∧ src < k)) : gZ ⟨src, clear, set, take, ref⟩ k = false := by
 unfold gZ; rw [decide_eq_false h]; rfl
theorem yj (h : ax set = false) : gZ ⟨src, clear, set, take, ref⟩ k = false := by
 unfold gZ; simp only; rw [h]; simp
theorem uV (h : ¬ (clear < 16777216 ∧ take < 16777216)) : gZ ⟨src, clear, set, take, ref⟩ k = false := by
 unfold gZ; simp only; rw [decide_eq_false h]; simp
theorem yl (h : ¬ (clear &&& (set.1 ||| set.2) = 0 ∧ take &&& (set.1 ||| set.2) = 0 ∧ take &&& clear = 0)) : gZ ⟨src, clear, set, take, ref⟩ k = false := by
 unfold gZ; simp only; rw [decide_eq_false h]; simp
theorem uU (h1 : -1 ≤ src ∧ src < k) (h2 : ax set = true) (h3 : clear < 16777216 ∧ take < 16777216) (h4 : clear &&& (set.1 ||| set.2) = 0 ∧ take &&& (set.1 ||| set.2) = 0 ∧ take &&& clear = 0) :
 gZ ⟨src, clear, set, take, ref⟩ k = if take = 0 then decide (ref = 0) else decide (0 ≤ ref ∧ ref < k) := by
 unfold gZ; simp only; rw [decide_eq_true h1, h2, decide_eq_true h3, decide_eq_true h4]; simp
end
theorem Ki (x : Ot) (k : Nat) (w : World) (bW : is32 x.clear) (hset : ok32 x.set) (htk : is32 x.take) : Calls Tryz.prog 66 #[Dt x, .int .i64 k] w fun e w' => e = .returned (.bool (gZ x k)) ∧ Below w.heap.size w w' := by
 obtain ⟨src, clear, set, take, ref⟩ := x
 simp only at *
 have hB := Blk.new w 90 #[.int .i64 src, .int .u32 clear, .int .u32 set.1, .int .u32 set.2, .int .u32 take, .int .i64 ref]
 have hb0 := (Below.refl w.heap.size w).alloc (Nat.le_refl _) (.cells #[.int .i64 src, .int .u32 clear, .int .u32 set.1, .int .u32 set.2, .int .u32 take, .int .i64 ref] 90)
 have hor : bits .or .u32 (set.1 : Int) set.2 = ((set.1 ||| set.2 : Nat) : Int) := u32_or_nat _ _ hset.1 hset.2
 have hsl : set.1 ||| set.2 < 4294967296 := Nat.or_lt_two_pow (n := 32) hset.1 hset.2
 have Ef : clear ||| take < 4294967296 := Nat.or_lt_two_pow (n := 32) bW htk
 have WH : bits .or .u32 (clear : Int) take = ((clear ||| take : Nat) : Int) := u32_or_nat _ _ bW htk
 have hm1 : bits .andNot .u32 ((clear ||| take : Nat) : Int) 16777215 = (((clear ||| take) &&& 4278190080 : Nat) : Int) := u32_andNot_nat _ 16777215 Ef (by decide)
 have hmc : bits .andNot .u32 (clear : Int) 16777215 = ((clear &&& 4278190080 : Nat) : Int) := u32_andNot_nat _ 16777215 bW (by decide)
 have hmt : bits .andNot .u32 (take : Int) 16777215 = ((take &&& 4278190080 : Nat) : Int) := u32_andNot_nat _ 16777215 htk (by decide)
 have ha1 : bits .and .u32 (clear : Int) ((set.1 ||| set.2 : Nat) : Int) = ((clear &&& (set.1 ||| set.2) : Nat) : Int) := u32_and_nat _ _ bW hsl
 have ha2 : bits .and .u32 (take : Int) ((set.1 ||| set.2 : Nat) : Int) = ((take &&& (set.1 ||| set.2) : Nat) : Int) := u32_and_nat _ _ htk hsl
 have ha3 : bits .and .u32 (take : Int) clear = ((take &&& clear : Nat) : Int) := u32_and_nat _ _ htk bW
 have JN : (set.1 ||| set.2) ||| clear < 4294967296 := Nat.or_lt_two_pow (n := 32) hsl bW
 have lg : bits .or .u32 ((set.1 ||| set.2 : Nat) : Int) clear = (((set.1 ||| set.2) ||| clear : Nat) : Int) := u32_or_nat _ _ hsl bW
 have ha4 : bits .and .u32 (take : Int) (((set.1 ||| set.2) ||| clear : Nat) : Int) = ((take &&& ((set.1 ||| set.2) ||| clear) : Nat) : Int) := u32_and_nat _ _ htk JN
 have hmz1 : (clear ||| take) &&& 4278190080 = 0 ↔ clear < 16777216 ∧ take < 16777216 := by rw [jk Ef, nJ]
 have hmz2 := jk bW
 have hmz3 := jk htk
 have haz : take &&& ((set.1 ||| set.2) ||| clear) = 0 ↔ take &&& (set.1 ||| set.2) = 0 ∧ take &&& clear = 0 := rZ
 have GJ := fun W => oN set W hset
 have E1 := @yh src ref k clear take set; have E2 := @yj src ref k clear take set; have E3 := @uV src ref k clear take set; have E4 := @yl src ref k clear take set; have E5 := @uU src ref k clear take set
 obtain ⟨res, hres⟩ : ∃ res, gZ ⟨src, clear, set, take, ref⟩ k = res := ⟨_, rfl⟩
 rw [hres] at E1 E2 E3 E4 E5 ⊢
 generalize (clear ||| take) &&& 4278190080 = y1 at *
 generalize clear &&& 4278190080 = z1 at *
 generalize take &&& 4278190080 = z2 at *
 generalize take &&& ((set.1 ||| set.2) ||| clear) = y3 at *
 generalize (set.1 ||| set.2) ||| clear = so at *
 generalize clear &&& (set.1 ||| set.2) = y2 at *
 generalize take &&& (set.1 ||| set.2) = y4 at *
 generalize take &&& clear = y5 at *
 generalize set.1 ||| set.2 = so0 at *
 generalize clear ||| take = ct at *
 have HB := qh hB; have HB0 := qh hb0; have xy := qh GJ
 have rD := qh E1
 have HE2 := qh E2
 have nV := qh E3
 have sj := qh E4
 have Hz := qh E5
 have PG := qh hmz1; have PE := qh hmz2; have PD := qh hmz3; have YH := qh haz
 clear hB hb0 GJ E1 E2 E3 E4 E5 hmz1 hmz2 hmz3 haz hres hsl Ef JN bW htk
 by_cases h1 : src < -1
 case pos =>
  have e0 : res = false := rD.out (by omega)
  subst e0
  go_enter Tryz.func66, Tryz.ntmps66
  go_wp2
  go_ret
  exact ⟨rfl, HB0.out⟩
 by_cases h2 : src < k
 case neg =>
  have yz : ¬ src < -1 := h1
  have h1d : decide (src < -1) = false := decide_eq_false h1
  have vJ : (k : Int) ≤ src := by omega
  have e0 : res = false := rD.out (by omega)
  subst e0
  go_enter Tryz.func66, Tryz.ntmps66
  go_wp2
  go_ret
  exact ⟨rfl, HB0.out⟩
 have yz : ¬ src < -1 := h1
 have h1d : decide (src < -1) = false := decide_eq_false h1
 have vJ : ¬ (k : Int) ≤ src := by omega
 have h2d : decide ((k : Int) ≤ src) = false := decide_eq_false vJ
 cases hv : ax set
 ·have HV := qh hv
  have h0 := HE2.out hv
  clear hv
  have e0 : res = false := h0
  subst e0
  go_enter Tryz.func66, Tryz.ntmps66
  go_wp2_with fail
  refine (xy.out _).mono ?_
  rw [HV.out]
  rintro e w1 ⟨rfl, hb1⟩
  obtain ⟨c0, c1, c2, c3, c4, c5⟩ := (HB.out.below hb1 HB.out.lt).six
  have HB1 := qh hb1
  clear hb1
  go_wp2
  go_ret
  exact ⟨rfl, HB0.out.trans (HB1.out.mono HB0.out.size)⟩
 have HV := qh hv
 clear hv
 by_cases my1 : y1 = 0
 case neg =>
  have by1 : ((y1 : Int) != 0) = true := by rw [bne_iff_ne]; omega
  have e0 : res = false := nV.out (fun h => my1 (PG.out.2 h))
  subst e0
  go_enter Tryz.func66, Tryz.ntmps66
  go_wp2_with fail
  refine (xy.out _).mono ?_
  rw [HV.out]
  rintro e w1 ⟨rfl, hb1⟩
  obtain ⟨c0, c1, c2, c3, c4, c5⟩ := (HB.out.below hb1 HB.out.lt).six
  have HB1 := qh hb1
  clear hb1
  go_wp2
  go_ret
  exact ⟨rfl, HB0.out.trans (HB1.out.mono HB0.out.size)⟩
 have by1 : ((y1 : Int) != 0) = false := by rw [bne_eq_false_iff_eq]; omega
 have HM := qh (PG.out.1 my1)
 by_cases my2 : y2 = 0
 case neg =>
  have by2 : ((y2 : Int) != 0) = true := by rw [bne_iff_ne]; omega
  have e0 : res = false := sj.out (fun h => my2 h.1)
  subst e0
  go_enter Tryz.func66, Tryz.ntmps66
  go_wp2_with fail
  refine (xy.out _).mono ?_
  rw [HV.out]
  rintro e w1 ⟨rfl, hb1⟩
  obtain ⟨c0, c1, c2, c3, c4, c5⟩ := (HB.out.below hb1 HB.out.lt).six
  have HB1 := qh hb1
  clear hb1
  go_wp2
  go_ret
  exact ⟨rfl, HB0.out.trans (HB1.out.mono HB0.out.size)⟩
 have by2 : ((y2 : Int) != 0) = false := by rw [bne_eq_false_iff_eq]; omega
 by_cases my3 : y3 = 0
 case neg =>
  have by3 : ((y3 : Int) != 0) = true := by rw [bne_iff_ne]; omega
  have e0 : res = false := sj.out (fun h => my3 (YH.out.2 h.2))
  subst e0
  go_enter Tryz.func66, Tryz.ntmps66
  go_wp2_with fail
  refine (xy.out _).mono ?_
  rw [HV.out]
  rintro e w1 ⟨rfl, hb1⟩
  obtain ⟨c0, c1, c2, c3, c4, c5⟩ := (HB.out.below hb1 HB.out.lt).six
  have HB1 := qh hb1
  clear hb1
  go_wp2
  go_ret
  exact ⟨rfl, HB0.out.trans (HB1.out.mono HB0.out.size)⟩
 have by3 : ((y3 : Int) != 0) = false := by rw [bne_eq_false_iff_eq]; omega
 have h0 := Hz.out ⟨by omega, h2⟩ HV.out HM.out ⟨my2, YH.out.1 my3⟩
 by_cases ht : take = 0
 ·rw [if_pos ht] at h0
  have bt : ((take : Int) == 0) = true := by rw [beq_iff_eq]; omega
  by_cases hr : ref = 0
  ·rw [decide_eq_true hr] at h0
   have br : (ref == 0) = true := by rw [beq_iff_eq]; exact hr
   clear ht hr
   have e0 : res = true := h0
   subst e0
   go_enter Tryz.func66, Tryz.ntmps66
   go_wp2_with fail
   refine (xy.out _).mono ?_
   rw [HV.out]
   rintro e w1 ⟨rfl, hb1⟩
   obtain ⟨c0, c1, c2, c3, c4, c5⟩ := (HB.out.below hb1 HB.out.lt).six
   have HB1 := qh hb1
   clear hb1
   go_wp2
   go_ret
   exact ⟨rfl, HB0.out.trans (HB1.out.mono HB0.out.size)⟩
  ·rw [decide_eq_false hr] at h0
   have br : (ref == 0) = false := by rw [beq_eq_false_iff_ne]; exact hr
   clear ht hr
   have e0 : res = false := h0
   subst e0
   go_enter Tryz.func66, Tryz.ntmps66
   go_wp2_with fail
   refine (xy.out _).mono ?_
   rw [HV.out]
   rintro e w1 ⟨rfl, hb1⟩
   obtain ⟨c0, c1, c2, c3, c4, c5⟩ := (HB.out.below hb1 HB.out.lt).six
   have HB1 := qh hb1
   clear hb1
   go_wp2
   go_ret
   exact ⟨rfl, HB0.out.trans (HB1.out.mono HB0.out.size)⟩
 ·rw [if_neg ht] at h0
  have bt : ((take : Int) == 0) = false := by rw [beq_eq_false_iff_ne]; omega
  by_cases hr : 0 ≤ ref
  ·by_cases hr2 : ref < k
   ·rw [decide_eq_true ⟨hr, hr2⟩] at h0
    clear ht
    have e0 : res = true := h0
    subst e0
    go_enter Tryz.func66, Tryz.ntmps66
    go_wp2_with fail
    refine (xy.out _).mono ?_
    rw [HV.out]
    rintro e w1 ⟨rfl, hb1⟩
    obtain ⟨c0, c1, c2, c3, c4, c5⟩ := (HB.out.below hb1 HB.out.lt).six
    have HB1 := qh hb1
    clear hb1
    go_wp2
    go_ret
    exact ⟨rfl, HB0.out.trans (HB1.out.mono HB0.out.size)⟩
   ·rw [decide_eq_false (fun h => hr2 h.2)] at h0
    have WA : decide (ref < (k : Int)) = false := decide_eq_false hr2
    clear ht
    have e0 : res = false := h0
    subst e0
    go_enter Tryz.func66, Tryz.ntmps66
    go_wp2_with fail
    refine (xy.out _).mono ?_
    rw [HV.out]
    rintro e w1 ⟨rfl, hb1⟩
    obtain ⟨c0, c1, c2, c3, c4, c5⟩ := (HB.out.below hb1 HB.out.lt).six
    have HB1 := qh hb1
    clear hb1
    go_wp2
    go_ret
    exact ⟨rfl, HB0.out.trans (HB1.out.mono HB0.out.size)⟩
  ·rw [decide_eq_false (fun h => hr h.1)] at h0
   have hrd : decide (0 ≤ ref) = false := decide_eq_false hr
   clear ht
   have e0 : res = false := h0
   subst e0
   go_enter Tryz.func66, Tryz.ntmps66
   go_wp2_with fail
   refine (xy.out _).mono ?_
   rw [HV.out]
   rintro e w1 ⟨rfl, hb1⟩
   obtain ⟨c0, c1, c2, c3, c4, c5⟩ := (HB.out.below hb1 HB.out.lt).six
   have HB1 := qh hb1
   clear hb1
   go_wp2
   go_ret
   exact ⟨rfl, HB0.out.trans (HB1.out.mono HB0.out.size)⟩
theorem Bd (x : Ot) (k : Nat) (w : World) (bW : is32 x.clear) (hset : ok32 x.set) (htk : is32 x.take) : Calls Tryz.prog 230 #[Dt x, .int .i64 k] w fun e w' => e = .returned (.bool (gZ x k)) ∧ Below w.heap.size w w' := by
 obtain ⟨src, clear, set, take, ref⟩ := x
 simp only at *
 have hB := Blk.new w 90 #[.int .i64 src, .int .u32 clear, .int .u32 set.1, .int .u32 set.2, .int .u32 take, .int .i64 ref]
 have hb0 := (Below.refl w.heap.size w).alloc (Nat.le_refl _) (.cells #[.int .i64 src, .int .u32 clear, .int .u32 set.1, .int .u32 set.2, .int .u32 take, .int .i64 ref] 90)
 have hor : bits .or .u32 (set.1 : Int) set.2 = ((set.1 ||| set.2 : Nat) : Int) := u32_or_nat _ _ hset.1 hset.2
 have hsl : set.1 ||| set.2 < 4294967296 := Nat.or_lt_two_pow (n := 32) hset.1 hset.2
 have Ef : clear ||| take < 4294967296 := Nat.or_lt_two_pow (n := 32) bW htk
 have WH : bits .or .u32 (clear : Int) take = ((clear ||| take : Nat) : Int) := u32_or_nat _ _ bW htk
 have hm1 : bits .andNot .u32 ((clear ||| take : Nat) : Int) 16777215 = (((clear ||| take) &&& 4278190080 : Nat) : Int) := u32_andNot_nat _ 16777215 Ef (by decide)
 have hmc : bits .andNot .u32 (clear : Int) 16777215 = ((clear &&& 4278190080 : Nat) : Int) := u32_andNot_nat _ 16777215 bW (by decide)
 have hmt : bits .andNot .u32 (take : Int) 16777215 = ((take &&& 4278190080 : Nat) : Int) := u32_andNot_nat _ 16777215 htk (by decide)
 have ha1 : bits .and .u32 (clear : Int) ((set.1 ||| set.2 : Nat) : Int) = ((clear &&& (set.1 ||| set.2) : Nat) : Int) := u32_and_nat _ _ bW hsl
 have ha2 : bits .and .u32 (take : Int) ((set.1 ||| set.2 : Nat) : Int) = ((take &&& (set.1 ||| set.2) : Nat) : Int) := u32_and_nat _ _ htk hsl
 have ha3 : bits .and .u32 (take : Int) clear = ((take &&& clear : Nat) : Int) := u32_and_nat _ _ htk bW
 have JN : (set.1 ||| set.2) ||| clear < 4294967296 := Nat.or_lt_two_pow (n := 32) hsl bW
 have lg : bits .or .u32 ((set.1 ||| set.2 : Nat) : Int) clear = (((set.1 ||| set.2) ||| clear : Nat) : Int) := u32_or_nat _ _ hsl bW
 have ha4 : bits .and .u32 (take : Int) (((set.1 ||| set.2) ||| clear : Nat) : Int) = ((take &&& ((set.1 ||| set.2) ||| clear) : Nat) : Int) := u32_and_nat _ _ htk JN
 have hmz1 : (clear ||| take) &&& 4278190080 = 0 ↔ clear < 16777216 ∧ take < 16777216 := by rw [jk Ef, nJ]
 have hmz2 := jk bW
 have hmz3 := jk htk
 have haz : take &&& ((set.1 ||| set.2) ||| clear) = 0 ↔ take &&& (set.1 ||| set.2) = 0 ∧ take &&& clear = 0 := rZ
 have GJ := fun W => gy set W hset
 have E1 := @yh src ref k clear take set; have E2 := @yj src ref k clear take set; have E3 := @uV src ref k clear take set; have E4 := @yl src ref k clear take set; have E5 := @uU src ref k clear take set
 obtain ⟨res, hres⟩ : ∃ res, gZ ⟨src, clear, set, take, ref⟩ k = res := ⟨_, rfl⟩
 rw [hres] at E1 E2 E3 E4 E5 ⊢
 generalize (clear ||| take) &&& 4278190080 = y1 at *
 generalize clear &&& 4278190080 = z1 at *
 generalize take &&& 4278190080 = z2 at *
 generalize take &&& ((set.1 ||| set.2) ||| clear) = y3 at *
 generalize (set.1 ||| set.2) ||| clear = so at *
 generalize clear &&& (set.1 ||| set.2) = y2 at *
 generalize take &&& (set.1 ||| set.2) = y4 at *
 generalize take &&& clear = y5 at *
 generalize set.1 ||| set.2 = so0 at *
 generalize clear ||| take = ct at *
 have HB := qh hB; have HB0 := qh hb0; have xy := qh GJ
 have rD := qh E1
 have HE2 := qh E2
 have nV := qh E3
 have sj := qh E4
 have Hz := qh E5
 have PG := qh hmz1; have PE := qh hmz2; have PD := qh hmz3; have YH := qh haz
 clear hB hb0 GJ E1 E2 E3 E4 E5 hmz1 hmz2 hmz3 haz hres hsl Ef JN bW htk
 by_cases h1 : src < -1
 case pos =>
  have e0 : res = false := rD.out (by omega)
  subst e0
  go_enter Tryz.func230, Tryz.ntmps230
  go_wp2
  go_ret
  exact ⟨rfl, HB0.out⟩
 by_cases h2 : src < k
 case neg =>
  have yz : ¬ src < -1 := h1
  have h1d : decide (src < -1) = false := decide_eq_false h1
  have vJ : (k : Int) ≤ src := by omega
  have e0 : res = false := rD.out (by omega)
  subst e0
  go_enter Tryz.func230, Tryz.ntmps230
  go_wp2
  go_ret
  exact ⟨rfl, HB0.out⟩
 have yz : ¬ src < -1 := h1
 have h1d : decide (src < -1) = false := decide_eq_false h1
 have vJ : ¬ (k : Int) ≤ src := by omega
 have h2d : decide ((k : Int) ≤ src) = false := decide_eq_false vJ
 cases hv : ax set
 ·have HV := qh hv
  have h0 := HE2.out hv
  clear hv
  have e0 : res = false := h0
  subst e0
  go_enter Tryz.func230, Tryz.ntmps230
  go_wp2_with fail
  refine (xy.out _).mono ?_
  rw [HV.out]
  rintro e w1 ⟨rfl, hb1⟩
  obtain ⟨c0, c1, c2, c3, c4, c5⟩ := (HB.out.below hb1 HB.out.lt).six
  have HB1 := qh hb1
  clear hb1
  go_wp2
  go_ret
  exact ⟨rfl, HB0.out.trans (HB1.out.mono HB0.out.size)⟩
 have HV := qh hv
 clear hv
 by_cases mz1 : z1 = 0
 case neg =>
  have bz1 : ((z1 : Int) != 0) = true := by rw [bne_iff_ne]; omega
  have e0 : res = false := nV.out (fun h => mz1 (PE.out.2 h.1))
  subst e0
  go_enter Tryz.func230, Tryz.ntmps230
  go_wp2_with fail
  refine (xy.out _).mono ?_
  rw [HV.out]
  rintro e w1 ⟨rfl, hb1⟩
  obtain ⟨c0, c1, c2, c3, c4, c5⟩ := (HB.out.below hb1 HB.out.lt).six
  have HB1 := qh hb1
  clear hb1
  go_wp2
  go_ret
  exact ⟨rfl, HB0.out.trans (HB1.out.mono HB0.out.size)⟩
 have bz1 : ((z1 : Int) != 0) = false := by rw [bne_eq_false_iff_eq]; omega
 by_cases mz2 : z2 = 0
 case neg =>
  have bz2 : ((z2 : Int) != 0) = true := by rw [bne_iff_ne]; omega
  have e0 : res = false := nV.out (fun h => mz2 (PD.out.2 h.2))
  subst e0
  go_enter Tryz.func230, Tryz.ntmps230
  go_wp2_with fail
  refine (xy.out _).mono ?_
  rw [HV.out]
  rintro e w1 ⟨rfl, hb1⟩
  obtain ⟨c0, c1, c2, c3, c4, c5⟩ := (HB.out.below hb1 HB.out.lt).six
  have HB1 := qh hb1
  clear hb1
  go_wp2
  go_ret
  exact ⟨rfl, HB0.out.trans (HB1.out.mono HB0.out.size)⟩
 have bz2 : ((z2 : Int) != 0) = false := by rw [bne_eq_false_iff_eq]; omega
 have HM : Hid (clear < 16777216 ∧ take < 16777216) := qh ⟨PE.out.1 mz1, PD.out.1 mz2⟩
 by_cases my2 : y2 = 0
 case neg =>
  have by2 : ((y2 : Int) != 0) = true := by rw [bne_iff_ne]; omega
  have e0 : res = false := sj.out (fun h => my2 h.1)
  subst e0
  go_enter Tryz.func230, Tryz.ntmps230
  go_wp2_with fail
  refine (xy.out _).mono ?_
  rw [HV.out]
  rintro e w1 ⟨rfl, hb1⟩
  obtain ⟨c0, c1, c2, c3, c4, c5⟩ := (HB.out.below hb1 HB.out.lt).six
  have HB1 := qh hb1
  clear hb1
  go_wp2
  go_ret
  exact ⟨rfl, HB0.out.trans (HB1.out.mono HB0.out.size)⟩
 have by2 : ((y2 : Int) != 0) = false := by rw [bne_eq_false_iff_eq]; omega
 by_cases my4 : y4 = 0
 case neg =>
  have by4 : ((y4 : Int) != 0) = true := by rw [bne_iff_ne]; omega
  have e0 : res = false := sj.out (fun h => my4 h.2.1)
  subst e0
  go_enter Tryz.func230, Tryz.ntmps230
  go_wp2_with fail
  refine (xy.out _).mono ?_
  rw [HV.out]
  rintro e w1 ⟨rfl, hb1⟩
  obtain ⟨c0, c1, c2, c3, c4, c5⟩ := (HB.out.below hb1 HB.out.lt).six
  have HB1 := qh hb1
  clear hb1
  go_wp2
  go_ret
  exact ⟨rfl, HB0.out.trans (HB1.out.mono HB0.out.size)⟩
 have by4 : ((y4 : Int) != 0) = false := by rw [bne_eq_false_iff_eq]; omega
 by_cases my5 : y5 = 0
 case neg =>
  have by5 : ((y5 : Int) != 0) = true := by rw [bne_iff_ne]; omega
  have e0 : res = false := sj.out (fun h => my5 h.2.2)
  subst e0
  go_enter Tryz.func230, Tryz.ntmps230
  go_wp2_with fail
  refine (xy.out _).mono ?_
  rw [HV.out]
  rintro e w1 ⟨rfl, hb1⟩
  obtain ⟨c0, c1, c2, c3, c4, c5⟩ := (HB.out.below hb1 HB.out.lt).six
  have HB1 := qh hb1
  clear hb1
  go_wp2
  go_ret
  exact ⟨rfl, HB0.out.trans (HB1.out.mono HB0.out.size)⟩
 have by5 : ((y5 : Int) != 0) = false := by rw [bne_eq_false_iff_eq]; omega
 have h0 := Hz.out ⟨by omega, h2⟩ HV.out HM.out ⟨my2, my4, my5⟩
 by_cases ht : take = 0
 ·rw [if_pos ht] at h0
  have bt : ((take : Int) == 0) = true := by rw [beq_iff_eq]; omega
  by_cases hr : ref = 0
  ·rw [decide_eq_true hr] at h0
   have br : (ref == 0) = true := by rw [beq_iff_eq]; exact hr
   clear ht hr
   have e0 : res = true := h0
   subst e0
   go_enter Tryz.func230, Tryz.ntmps230
   go_wp2_with fail
   refine (xy.out _).mono ?_
   rw [HV.out]
   rintro e w1 ⟨rfl, hb1⟩
   obtain ⟨c0, c1, c2, c3, c4, c5⟩ := (HB.out.below hb1 HB.out.lt).six
   have HB1 := qh hb1
   clear hb1
   go_wp2
   go_ret
   exact ⟨rfl, HB0.out.trans (HB1.out.mono HB0.out.size)⟩
  ·rw [decide_eq_false hr] at h0
   have br : (ref == 0) = false := by rw [beq_eq_false_iff_ne]; exact hr
   clear ht hr
   have e0 : res = false := h0
   subst e0
   go_enter Tryz.func230, Tryz.ntmps230
   go_wp2_with fail
   refine (xy.out _).mono ?_
   rw [HV.out]
   rintro e w1 ⟨rfl, hb1⟩
   obtain ⟨c0, c1, c2, c3, c4, c5⟩ := (HB.out.below hb1 HB.out.lt).six
   have HB1 := qh hb1
   clear hb1
   go_wp2
   go_ret
   exact ⟨rfl, HB0.out.trans (HB1.out.mono HB0.out.size)⟩
 ·rw [if_neg ht] at h0
  have bt : ((take : Int) == 0) = false := by rw [beq_eq_false_iff_ne]; omega
  by_cases hr : 0 ≤ ref
  ·by_cases hr2 : ref < k
   ·rw [decide_eq_true ⟨hr, hr2⟩] at h0
    clear ht
    have e0 : res = true := h0
    subst e0
    go_enter Tryz.func230, Tryz.ntmps230
    go_wp2_with fail
    refine (xy.out _).mono ?_
    rw [HV.out]
    rintro e w1 ⟨rfl, hb1⟩
    obtain ⟨c0, c1, c2, c3, c4, c5⟩ := (HB.out.below hb1 HB.out.lt).six
    have HB1 := qh hb1
    clear hb1
    go_wp2
    go_ret
    exact ⟨rfl, HB0.out.trans (HB1.out.mono HB0.out.size)⟩
   ·rw [decide_eq_false (fun h => hr2 h.2)] at h0
    have WA : decide (ref < (k : Int)) = false := decide_eq_false hr2
    clear ht
    have e0 : res = false := h0
    subst e0
    go_enter Tryz.func230, Tryz.ntmps230
    go_wp2_with fail
    refine (xy.out _).mono ?_
    rw [HV.out]
    rintro e w1 ⟨rfl, hb1⟩
    obtain ⟨c0, c1, c2, c3, c4, c5⟩ := (HB.out.below hb1 HB.out.lt).six
    have HB1 := qh hb1
    clear hb1
    go_wp2
    go_ret
    exact ⟨rfl, HB0.out.trans (HB1.out.mono HB0.out.size)⟩
  ·rw [decide_eq_false (fun h => hr h.1)] at h0
   have hrd : decide (0 ≤ ref) = false := decide_eq_false hr
   clear ht
   have e0 : res = false := h0
   subst e0
   go_enter Tryz.func230, Tryz.ntmps230
   go_wp2_with fail
   refine (xy.out _).mono ?_
   rw [HV.out]
   rintro e w1 ⟨rfl, hb1⟩
   obtain ⟨c0, c1, c2, c3, c4, c5⟩ := (HB.out.below hb1 HB.out.lt).six
   have HB1 := qh hb1
   clear hb1
   go_wp2
   go_ret
   exact ⟨rfl, HB0.out.trans (HB1.out.mono HB0.out.size)⟩
def nu (w : World) (ok : Bool) (e : Ending) (w' : World) : Prop := ∃ x : Int, e = .returned (.int .i64 x) ∧ (x = 0 ↔ ok = true) ∧ Below w.heap.size w w'
theorem below2 {w : World} {o1 o2 : Obj} : Below w.heap.size w ((w.alloc o1).alloc o2) := ((Below.refl _ w).alloc (Nat.le_refl _) _).alloc (by simp) _
theorem below3 {w w1 : World} {o1 o2 : Obj} (h : Below ((w.alloc o1).alloc o2).heap.size ((w.alloc o1).alloc o2) w1) : Below w.heap.size w w1 := below2.trans (h.mono (by simp; omega))
theorem iF {x : Int} {b : Bool} (hx : x ≠ 0) (hb : b = false) : x = 0 ↔ b = true := ⟨fun h => absurd h hx, fun h => by rw [hb] at h; cases h⟩
theorem fU {b : Bool} (hb : b = true) : (0 : Int) = 0 ↔ b = true := ⟨fun _ => hb, fun _ => rfl⟩
theorem Cm (k : Int) (hk : k = 0 ∨ k = 2 ∨ k = 6) (a b : Nat) (neg : Bool) (lo hi : Int) (A : Option Addr) (n c : Nat) (w : World)  :
 Calls Tryz.prog 143 #[pF k (a, b) neg lo hi (.slice A n c)] w (nu w (bu k (a, b) neg lo hi n)) := by
 have hv := fun W => lu (0, 0) W ⟨by unfold is32; decide, by unfold is32; decide⟩
 have hv0 : ax (0, 0) = true := by decide
 rw [hv0] at hv
 have HV := qh hv
 clear hv hv0
 have aS : bu k (a, b) neg lo hi n = (decide ((a, b) = ((0 : Nat), (0 : Nat))) && !neg && decide (lo = 0 ∧ hi = 0 ∧ n = 0)) := by unfold bu; rw [if_neg (by omega), if_pos hk]
 rw [aS]
 clear aS
 obtain ⟨res, hres⟩ : ∃ res, (decide ((a, b) = ((0 : Nat), (0 : Nat))) && !neg && decide (lo = 0 ∧ hi = 0 ∧ n = 0)) = res := ⟨_, rfl⟩
 rw [hres]
 have bT := qh hres
 clear hres
 rcases hk with rfl | rfl | rfl
 all_goals
  go_enter Tryz.func143, Tryz.ntmps143
  go_wp2_with (go_at_call 191; refine (HV.out _).mono ?_; rintro e w1 ⟨rfl, hb1⟩)
  all_goals go_ret
  all_goals first
   | (refine ⟨2, rfl, iF (by decide) ?_, below2⟩; rw [← bT.out]; simp [*]; done)
   | (refine ⟨2, rfl, iF (by decide) ?_, below2⟩; rw [← bT.out]; simp [*]; omega)
   | (refine ⟨0, rfl, fU ?_, below3 hb1⟩; rw [← bT.out]; simp [*]; done)
   | (refine ⟨0, rfl, fU ?_, below3 hb1⟩; rw [← bT.out]; simp [*]; omega)
   | (refine ⟨14, rfl, iF (by decide) ?_, below3 hb1⟩; rw [← bT.out]; simp [*]; done)
   | (refine ⟨0, rfl, fU ?_, below3 hb1⟩; rw [← bT.out]; simp_all; omega)
theorem Ez (k : Int) (hk : k = 3 ∨ k = 4) (a b : Nat) (neg : Bool) (lo hi : Int) (A : Option Addr) (n c : Nat) (w : World)  :
 Calls Tryz.prog 143 #[pF k (a, b) neg lo hi (.slice A n c)] w (nu w (bu k (a, b) neg lo hi n)) := by
 have hv := fun W => lu (0, 0) W ⟨by unfold is32; decide, by unfold is32; decide⟩
 have hv0 : ax (0, 0) = true := by decide
 rw [hv0] at hv
 have HV := qh hv
 clear hv hv0
 have aS : bu k (a, b) neg lo hi n = (decide ((a, b) = ((0 : Nat), (0 : Nat))) && !neg && decide (lo = 0 ∧ hi = 0)) := by unfold bu; rw [if_neg (by omega), if_neg (by omega), if_pos hk]
 rw [aS]
 clear aS
 obtain ⟨res, hres⟩ : ∃ res, (decide ((a, b) = ((0 : Nat), (0 : Nat))) && !neg && decide (lo = 0 ∧ hi = 0)) = res := ⟨_, rfl⟩
 rw [hres]
 have bT := qh hres
 clear hres
 rcases hk with rfl | rfl
 all_goals
  go_enter Tryz.func143, Tryz.ntmps143
  go_wp2_with (go_at_call 191; refine (HV.out _).mono ?_; rintro e w1 ⟨rfl, hb1⟩)
  all_goals go_ret
  all_goals first
   | (refine ⟨2, rfl, iF (by decide) ?_, below2⟩; rw [← bT.out]; simp [*]; done)
   | (refine ⟨2, rfl, iF (by decide) ?_, below2⟩; rw [← bT.out]; simp [*]; omega)
   | (refine ⟨0, rfl, fU ?_, below3 hb1⟩; rw [← bT.out]; simp [*]; done)
   | (refine ⟨0, rfl, fU ?_, below3 hb1⟩; rw [← bT.out]; simp [*]; omega)
   | (refine ⟨14, rfl, iF (by decide) ?_, below3 hb1⟩; rw [← bT.out]; simp [*]; done)
   | (refine ⟨0, rfl, fU ?_, below3 hb1⟩; rw [← bT.out]; simp_all; omega)
theorem Hf (k : Int) (hk : k = 1) (a b : Nat) (neg : Bool) (lo hi : Int) (A : Option Addr) (n c : Nat) (w : World) (h32 : ok32 (a, b)) :
 Calls Tryz.prog 143 #[pF k (a, b) neg lo hi (.slice A n c)] w (nu w (bu k (a, b) neg lo hi n)) := by
 have hv := fun W => lu (a, b) W h32
 have HV := qh hv
 clear hv
 have aS : bu k (a, b) neg lo hi n = (decide (lo = 0 ∧ hi = 0 ∧ n = 0) && ax (a, b)) := by unfold bu; rw [if_pos hk]
 rw [aS]
 clear aS
 generalize ax (a, b) = va at *
 obtain ⟨res, hres⟩ : ∃ res, (decide (lo = 0 ∧ hi = 0 ∧ n = 0) && va) = res := ⟨_, rfl⟩
 rw [hres]
 have bT := qh hres
 clear hres h32
 subst hk
 cases va
 all_goals
  go_enter Tryz.func143, Tryz.ntmps143
  go_wp2_with (go_at_call 191; refine (HV.out _).mono ?_; rintro e w1 ⟨rfl, hb1⟩)
  all_goals go_ret
  all_goals first
   | (refine ⟨2, rfl, iF (by decide) ?_, below2⟩; rw [← bT.out]; simp [*]; done)
   | (refine ⟨2, rfl, iF (by decide) ?_, below2⟩; rw [← bT.out]; simp [*]; omega)
   | (refine ⟨0, rfl, fU ?_, below3 hb1⟩; rw [← bT.out]; simp [*]; done)
   | (refine ⟨0, rfl, fU ?_, below3 hb1⟩; rw [← bT.out]; simp [*]; omega)
   | (refine ⟨14, rfl, iF (by decide) ?_, below3 hb1⟩; rw [← bT.out]; simp [*]; done)
   | (refine ⟨0, rfl, fU ?_, below3 hb1⟩; rw [← bT.out]; simp_all; omega)
theorem He (k : Int) (hk : k = 5) (a b : Nat) (neg : Bool) (lo hi : Int) (A : Option Addr) (n c : Nat) (w : World)  :
 Calls Tryz.prog 143 #[pF k (a, b) neg lo hi (.slice A n c)] w (nu w (bu k (a, b) neg lo hi n)) := by
 have hv := fun W => lu (0, 0) W ⟨by unfold is32; decide, by unfold is32; decide⟩
 have hv0 : ax (0, 0) = true := by decide
 rw [hv0] at hv
 have HV := qh hv
 clear hv hv0
 have aS : bu k (a, b) neg lo hi n = (decide ((a, b) = ((0 : Nat), (0 : Nat))) && !neg && decide (n = 1 ∧ 0 ≤ lo ∧ lo ≤ 32 ∧ (hi = -1 ∨ (lo ≤ hi ∧ hi ≤ 32)))) := by unfold bu; rw [if_neg (by omega), if_neg (by omega), if_neg (by omega), if_pos hk]
 rw [aS]
 clear aS
 obtain ⟨res, hres⟩ : ∃ res, (decide ((a, b) = ((0 : Nat), (0 : Nat))) && !neg && decide (n = 1 ∧ 0 ≤ lo ∧ lo ≤ 32 ∧ (hi = -1 ∨ (lo ≤ hi ∧ hi ≤ 32)))) = res := ⟨_, rfl⟩
 rw [hres]
 have bT := qh hres
 clear hres
 subst hk
 all_goals
  go_enter Tryz.func143, Tryz.ntmps143
  go_wp2_with (go_at_call 191; refine (HV.out _).mono ?_; rintro e w1 ⟨rfl, hb1⟩)
  all_goals go_ret
  all_goals first
   | (refine ⟨2, rfl, iF (by decide) ?_, below2⟩; rw [← bT.out]; simp [*]; done)
   | (refine ⟨2, rfl, iF (by decide) ?_, below2⟩; rw [← bT.out]; simp [*]; omega)
   | (refine ⟨0, rfl, fU ?_, below3 hb1⟩; rw [← bT.out]; simp [*]; done)
   | (refine ⟨0, rfl, fU ?_, below3 hb1⟩; rw [← bT.out]; simp [*]; omega)
   | (refine ⟨14, rfl, iF (by decide) ?_, below3 hb1⟩; rw [← bT.out]; simp [*]; done)
   | (refine ⟨0, rfl, fU ?_, below3 hb1⟩; rw [← bT.out]; simp_all; omega)
theorem zC (k : Int) (h0 : ¬ k = 0) (h1 : ¬ k = 1) (h2 : ¬ k = 2) (h3 : ¬ k = 3) (h4 : ¬ k = 4) (h5 : ¬ k = 5) (h6 : ¬ k = 6) (a b : Nat) (neg : Bool) (lo hi : Int) (A : Option Addr) (n c : Nat) (w : World) :
 Calls Tryz.prog 143 #[pF k (a, b) neg lo hi (.slice A n c)] w (nu w (bu k (a, b) neg lo hi n)) := by
 have aS : bu k (a, b) neg lo hi n = false := by unfold bu; rw [if_neg (by omega), if_neg (by omega), if_neg (by omega), if_neg (by omega), Bool.and_false]
 rw [aS]
 clear aS
 go_enter Tryz.func143, Tryz.ntmps143
 go_wp2_with fail
 go_ret
 exact ⟨2, rfl, iF (by decide) rfl, below2⟩
theorem Ck (k : Int) (s : Snd) (neg : Bool) (lo hi : Int) (A : Option Addr) (n c : Nat) (w : World) (h32 : ok32 s) :
 Calls Tryz.prog 143 #[pF k s neg lo hi (.slice A n c)] w (nu w (bu k s neg lo hi n)) := by
 obtain ⟨a, b⟩ := s
 by_cases h0 : k = 0 ∨ k = 2 ∨ k = 6
 ·exact Cm k h0 a b neg lo hi A n c w
 ·by_cases h3 : k = 3 ∨ k = 4
  ·exact Ez k h3 a b neg lo hi A n c w
  ·by_cases h1 : k = 1
   ·exact Hf k h1 a b neg lo hi A n c w h32
   ·by_cases h5 : k = 5
    ·exact He k h5 a b neg lo hi A n c w
    ·exact zC k (by omega) h1 (by omega) (by omega) (by omega) h5 (by omega) a b neg lo hi A n c w
end Go.Proofs.YtmepaeahchiglaaGreatDoor
namespace Go.Proofs.YtmepaeahchiglaaGreatDoor
open Go.RowKit
def nQ {β : Type} (mine : Nat → Prop) (B : Nat) (I : β → World → Prop) : Prop :=
 ∀ s W W' row, I s W → W.grownBy W' row → (∀ r, row = some r → mine r ∨ (B ≤ r ∧ ∃ o : Obj, W.heap[r]? = some o ∧ o.isCells = false)) → I s W'
theorem nQ.put {β : Type} {mine : Nat → Prop} {B : Nat} {I : β → World → Prop} (h : nQ mine B I) {s : β} {W : World} {l : Nat} {o : Obj} (o' : Obj) (hs : I s W) (hB : B ≤ l) (hl : W.heap[l]? = some o) (ho : o.isCells = false) : I s (W.putObj l o') :=
 h s W _ (some l) hs (grownBy_putObj' W l o') (fun r e => by cases e; exact .inr ⟨hB, o, hl, ho⟩)
theorem nQ.new {β : Type} {mine : Nat → Prop} {B : Nat} {I : β → World → Prop} (h : nQ mine B I) {s : β} {W : World} (o : Obj) (hs : I s W) : I s (W.alloc o) :=
 h s W _ none hs (World.grownBy_alloc W o none) (fun r e => by cases e)
def KM {α : Type} (P : Program) (gf : Nat) (lb : Array Value) (encs : α → Array Value) (mine : Nat → Prop) (Kp : World → World → Prop) (S Sp : List α → Prop) (N : Nat) (w0 : World) : Prop :=
 ∀ (l : Nat) (J Jx : List α → World → Prop) (W : World), Below w0.heap.size w0 W →
  (∀ s A B row, J s A → A.grownBy B row → (∀ r, row = some r → mine r) → J s B) → (∀ s A B row, Jx s A → A.grownBy B row → (∀ r, row = some r → mine r) → Jx s B) →
  (∀ pre x W1, J pre W1 → pre.length < N → YieldAt Fence.wide 2 P l (encs x) W1 fun e W' =>
    (e = .returned (.bool true) ∧ J (pre ++ [x]) W' ∧ Kp W1 W') ∨ (e = .returned (.bool false) ∧ Jx (pre ++ [x]) W')) →
  J [] W →
  CallsIn Fence.wide 3 P gf (#[.func (.yield l) #[] #[]] ++ lb) W fun e W' => (∃ v, e = .returned v) ∧ ((∃ xs, S xs ∧ J xs W') ∨ (∃ pre, Sp pre ∧ Jx pre W'))
section
variable {P : Program}
def iL (w : World) (fn : FuncId) (tmps : Array Value) (ps : Array Tmp) (assign body : Code) (W : World) (st : LoopState) (pe : Option Code) : Prop :=
 W.heap[w.heap.size + 1]? = some (.loop { state := st, pending := pe, fn, tmps, params := ps, assign, body, defers := w.heap.size }) ∧ W.heap[w.heap.size]? = some (.deferred (some []))
theorem iL.keep {w : World} {fn : FuncId} {tmps : Array Value} {ps : Array Tmp} {assign body : Code} {A B : World} {st : LoopState} {pe : Option Code} {row : Option Nat} (h : iL w fn tmps ps assign body A st pe) (hg : A.grownBy B row) (hr : ∀ r, row = some r → r < w.heap.size) : iL w fn tmps ps assign body B st pe := by
 have h1 := (Array.getElem?_eq_some_iff.1 h.1).1
 have h2 := (Array.getElem?_eq_some_iff.1 h.2).1
 exact ⟨(hg.block _ h1 (fun e => by have := hr _ e.symm; omega)).trans h.1, (hg.block _ h2 (fun e => by have := hr _ e.symm; omega)).trans h.2⟩
theorem iL.set_ {w : World} {fn : FuncId} {tmps : Array Value} {ps : Array Tmp} {assign body : Code} {A : World} {st : LoopState} {pe : Option Code} (h : iL w fn tmps ps assign body A st pe) (st' : LoopState) (YO : Option Code) :
 iL w fn tmps ps assign body (A.putObj (w.heap.size + 1) (.loop { state := st', pending := YO, fn, tmps, params := ps, assign, body, defers := w.heap.size })) st' YO :=
 ⟨World.putObj_heap_same (Array.getElem?_eq_some_iff.1 h.1).1, (World.putObj_heap_other (by omega)).trans h.2⟩
end
theorem yG {n l : Nat} {W : World} {o o' : Obj} (hl : n ≤ l) (h : W.heap[l]? = some o) : Below n W (W.putObj l o') :=
 (Below.refl n W).grown (grownBy_putObj' W l o') (by have := (Array.getElem?_eq_some_iff.1 h).1; omega) (fun k e => by cases e; exact hl)
theorem Blk.turn {mine : Nat → Prop} {B g : Nat} {t : TypeId} {cs : Array Value} {W W' : World} {row : Option Nat} (h : Blk W g t cs) (hg : W.grownBy W' row) (hr : ∀ r, row = some r → mine r ∨ (B ≤ r ∧ ∃ o : Obj, W.heap[r]? = some o ∧ o.isCells = false)) (hm : ¬ mine g) : Blk W' g t cs :=
 h.grown hg (fun e => by
  rcases hr g e.symm with h1 | ⟨_, o, ho, hc⟩
  ·exact hm h1
  ·unfold Blk at h; rw [h] at ho; injection ho with ho; subst ho; simp [Obj.isCells] at hc)
open Go.Lib Go.Shelf
attribute [local go_sem] Oper.semAt_some
theorem zB (A : Option Addr) (n c : Nat) (w : World) : Calls Tryz.prog 144 #[.slice A n c] w fun e w' =>
 e = .returned (.func (.func 192) #[] #[.pointer (some ⟨w.heap.size, 0, none⟩)]) ∧ w' = w.alloc (.cells #[.slice A n c] 56) := by
 go_enter Tryz.func144, Tryz.ntmps144
 go_wp2
 go_ret
 exact ⟨rfl, rfl⟩
def agg7 (xs : List Value) (i : Nat) : Value := .agg #[xs[i * 7]!, xs[i * 7 + 1]!, xs[i * 7 + 2]!, xs[i * 7 + 3]!, xs[i * 7 + 4]!, xs[i * 7 + 5]!, xs[i * 7 + 6]!]
abbrev O4 (xs : List Value) (n : Nat) (i : Fin n) : Array Value := #[.int .i64 (i.val : Int), agg7 xs i.val]
def mU (n : Nat) : List (Fin n) := (List.finRange n).reverse
def kD (A : Option Addr) (n c b B : Nat) (xs : List Value) (W : World) : Prop := Blk W b 56 #[.slice A n c] ∧ Reads W B 7 A n xs
theorem QV (A : Option Addr) (n c b B : Nat) (xs : List Value) (w0 : World) (hI : kD A n c b B xs w0) (hBs : B ≤ w0.heap.size) (hn : n ≤ maxLen) :
 KM Tryz.prog 192 #[.pointer (some ⟨b, 0, none⟩)] (O4 xs n) (fun _ => False) (fun W W' => kD A n c b B xs W → kD A n c b B xs W') (fun zs => zs = mU n) (fun _ => True) n w0 := by
 intro l J Jx W hW hJ hJx hY h0
 refine callsIn_of_wp Tryz.func192 rfl trivial ?_ rfl
 simp only [Tryz.ntmps192, List.size_toArray, List.length_cons, List.length_nil, Nat.reduceAdd, Nat.reduceSub, Array.replicate_succ, Array.replicate_zero, List.push_toArray, List.append_toArray, List.nil_append, List.cons_append]
 have HY := qh hY; clear hY hJ hJx
 have hI1 : kD A n c b B xs W := ⟨hI.1.below hW hI.1.lt, hI.2.below (hW.mono hBs)⟩
 have hxl := hI.2.1
 unfold maxLen at hn
 have hc0 := hI1.1.cell 0
 simp only [gq2] at hc0
 gi_wp2
 gi_loopw [3] (fun z wr => ∃ k : Nat, k ≤ n ∧ z = .int .i64 ((n : Int) - 1 - k) ∧ kD A n c b B xs wr ∧ J ((mU n).take k) wr) (fun z _ => ((RowKit.intOf z) + 1).toNat)
 case atStart => exact ⟨0, by omega, by simp, hI1, h0⟩
 case round =>
  obtain ⟨k, hk, rfl, hB, hj⟩ := hrel
  by_cases hlt : k < n
  ·obtain ⟨j, hjk⟩ : ∃ j : Nat, j + k + 1 = n := ⟨n - 1 - k, by omega⟩
   have hjn : j < n := by omega
   have ej : (n : Int) - 1 - k = (j : Int) := by omega
   rw [ej]
   have JU : (j : Int) < (n : Int) := by omega
   obtain ⟨ad, rfl, had, hcell⟩ := hB.2.2 (by omega)
   have hx : ∀ t, t < 7 → wr.cell? (ad.add (j * 7 + t)) = some xs[j * 7 + t]! := fun t ht => hcell _ _ (by
    have : j * 7 + t < xs.length := by omega
    rw [getElem!_pos xs _ this, List.getElem?_eq_getElem this])
   have hc1 := hx 0 (by omega)
   have hc2 := hx 1 (by omega)
   have hc3 := hx 2 (by omega)
   have hc4 := hx 3 (by omega)
   have hc5 := hx 4 (by omega)
   have hc6 := hx 5 (by omega)
   have hc7 := hx 6 (by omega)
   rw [aH ad (j * 7) 0] at hc2
   rw [aH ad (j * 7) 1] at hc3
   rw [aH ad (j * 7) 2] at hc4
   rw [aH ad (j * 7) 3] at hc5
   rw [aH ad (j * 7) 4] at hc6
   rw [aH ad (j * 7) 5] at hc7
   have hlen : (mU n).length = n := by unfold mU; rw [List.length_reverse, List.length_finRange]
   have Y5 := HY.out ((mU n).take k) ⟨j, hjn⟩ wr hj (by rw [List.length_take, hlen]; omega)
   have hts : (mU n).take k ++ [⟨j, hjn⟩] = (mU n).take (k + 1) := by
    rw [List.take_succ_eq_append_getElem (by rw [hlen]; exact hlt)]
    congr 2
    unfold mU
    rw [List.getElem_reverse, List.getElem_finRange]
    ext; simp; omega
   rw [hts] at Y5
   simp only [Nat.add_zero] at hc1
   have hcb := hB.1.cell 0
   simp only [gq2] at hcb
   obtain ⟨fn, tmps, assign, body, hy, hR⟩ := Y5
   dsimp only [O4, agg7] at hy
   generalize xs[j * 7]! = v0 at *
   generalize xs[j * 7 + 1]! = v1 at *
   generalize xs[j * 7 + 2]! = v2 at *
   generalize xs[j * 7 + 3]! = v3 at *
   generalize xs[j * 7 + 4]! = v4 at *
   generalize xs[j * 7 + 5]! = v5 at *
   generalize xs[j * 7 + 6]! = v6 at *
   clear hts hj hcell hx hlen hc0 ej
   gi_wp2_with fail
   refine hR.mono ?_
   rintro e W3 (⟨rfl, hJ3, hk3⟩ | ⟨rfl, hJx3⟩)
   ·have hB3 := hk3 hB
    clear hy hR hc1 hc2 hc3 hc4 hc5 hc6 hc7
    gi_wp2
    go_roundw
    case rel => exact ⟨k + 1, by omega, by congr 1 <;> omega, hB3, hJ3⟩
    case measure => simp [RowKit.intOf]
   ·gi_wp2
    refine bodyPost_ret (results_none rfl _ _ _) rfl ?_
    exact ⟨⟨_, rfl⟩, .inr ⟨_, trivial, hJx3⟩⟩
  ·obtain rfl : k = n := by omega
   rw [List.take_of_length_le (by unfold mU; rw [List.length_reverse, List.length_finRange]; exact Nat.le_refl _)] at hj
   have ez : (k : Int) - 1 - k = -1 := by omega
   rw [ez]
   clear ez
   gi_wp2
   go_end0
   exact ⟨⟨_, rfl⟩, .inl ⟨_, rfl, hj⟩⟩
end Go.Proofs.YtmepaeahchiglaaGreatDoor
