/-
  layer 4: the reference's features of a sound, and whether a sound belongs to an inventory. Conditions: sounds of 32 bits that are valid; an inventory in memory.
-/
import Derived.Test.YtohggdfplmlinaaDoorNtD2
namespace Go.Proofs.YtohggdfplmlinaaDoor
open Go.RowKit Go.Lib

set_option maxRecDepth 20000 in
set_option maxHeartbeats 1000000 in
theorem feature_any (f : Nat) (w : World) (hf : f < 24) : Calls Tryd.prog 97 #[.int .i64 f] w fun e w' => e = .returned (.bool true) ∧ w = w' := by
  have h0 : (0 : Int) ≤ (f : Int) := by omega
  have h1 : (f : Int) < 24 := by omega
  clear hf
  go_enter Tryd.func97, Tryd.ntmps97
  go_wp2
  go_ret
  exact ⟨rfl, rfl⟩
/-- What a sound says of a feature. -/
def getF (s : Snd) (f : Nat) : Int := if s.1.testBit f then 1 else if s.2.testBit f then -1 else 0
set_option maxRecDepth 20000 in
set_option maxHeartbeats 1000000 in
theorem get_any (s : Snd) (f : Nat) (w : World) (hf : f < 24) (hs : ok32 s) (hv : validS s = true) : Calls Tryd.prog 88 #[sndV s, .int .i64 f] w fun e w' => e = .returned (.int .i64 (getF s f)) ∧ Below w.heap.size w w' := by
  have h0 : (0 : Int) ≤ (f : Int) := by omega
  have h1 : (f : Int) < 24 := by omega
  have ha := bit_int s.1 f hs.1
  have hb := bit_int s.2 f hs.2
  have hc1 := fun w => rvalid1_any s w hs
  rw [hv] at hc1
  have hc2 := fun w => feature_any f w hf
  have hg : getF s f = if s.1.testBit f then 1 else if s.2.testBit f then -1 else 0 := rfl
  have HC1 := Lib.hid hc1; have HC2 := Lib.hid hc2
  clear hc1 hc2 hf hs hv
  generalize getF s f = r at *
  obtain ⟨p, q⟩ := s
  go_enter Tryd.func88, Tryd.ntmps88
  cases hta : p.testBit f with
  | true =>
    rw [hta] at ha hg
    simp only [if_true] at ha hg
    subst hg
    clear hb hta
    go_wp2_with fail
    refine (HC1.out _).mono ?_
    rintro e w1 ⟨rfl, hb1⟩
    have c0 := (Blk.new w 39 #[.int .u32 p, .int .u32 q]).below hb1 (by simp)
    have k0 := c0.cell 0
    have k1 := c0.cell 1
    simp only [List.getElem?_toArray, List.getElem?_cons_zero, List.getElem?_cons_succ] at k0 k1
    have HB := Lib.hid (((Below.refl _ w).alloc (Nat.le_refl _) (.cells #[.int .u32 p, .int .u32 q] 39)).trans (hb1.mono (by simp)))
    clear hb1 c0
    go_wp2_with fail
    refine (HC2.out _).mono ?_
    rintro e w2 ⟨rfl, rfl⟩
    go_wp2
    go_ret
    exact ⟨rfl, HB.out⟩
  | false =>
    rw [hta] at ha hg
    simp only [Bool.false_eq_true, if_false] at ha hg
    clear hta
    cases htb : q.testBit f with
    | true =>
      rw [htb] at hb hg
      simp only [if_true] at hb hg
      subst hg
      clear htb
      go_wp2_with fail
      refine (HC1.out _).mono ?_
      rintro e w1 ⟨rfl, hb1⟩
      have c0 := (Blk.new w 39 #[.int .u32 p, .int .u32 q]).below hb1 (by simp)
      have k0 := c0.cell 0
      have k1 := c0.cell 1
      simp only [List.getElem?_toArray, List.getElem?_cons_zero, List.getElem?_cons_succ] at k0 k1
      have HB := Lib.hid (((Below.refl _ w).alloc (Nat.le_refl _) (.cells #[.int .u32 p, .int .u32 q] 39)).trans (hb1.mono (by simp)))
      clear hb1 c0
      go_wp2_with fail
      refine (HC2.out _).mono ?_
      rintro e w2 ⟨rfl, rfl⟩
      go_wp2
      go_ret
      exact ⟨rfl, HB.out⟩
    | false =>
      rw [htb] at hb hg
      simp only [Bool.false_eq_true, if_false] at hb hg
      subst hg
      clear htb
      go_wp2_with fail
      refine (HC1.out _).mono ?_
      rintro e w1 ⟨rfl, hb1⟩
      have c0 := (Blk.new w 39 #[.int .u32 p, .int .u32 q]).below hb1 (by simp)
      have k0 := c0.cell 0
      have k1 := c0.cell 1
      simp only [List.getElem?_toArray, List.getElem?_cons_zero, List.getElem?_cons_succ] at k0 k1
      have HB := Lib.hid (((Below.refl _ w).alloc (Nat.le_refl _) (.cells #[.int .u32 p, .int .u32 q] 39)).trans (hb1.mono (by simp)))
      clear hb1 c0
      go_wp2_with fail
      refine (HC2.out _).mono ?_
      rintro e w2 ⟨rfl, rfl⟩
      go_wp2
      go_ret
      exact ⟨rfl, HB.out⟩
theorem getF_zero {s : Snd} {f : Nat} : getF s f = 0 ↔ (s.1 ||| s.2).testBit f = false := by
  unfold getF
  rw [Nat.testBit_or]
  cases s.1.testBit f <;> cases s.2.testBit f <;> simp
theorem belongs_bits {n : Nat} {s : Snd} (hn : n ≤ 24) : belongs n s = true ↔ validS s = true ∧ ∀ f, n ≤ f → f < 24 → getF s f = 0 := by
  unfold belongs validS
  rw [decide_eq_true_iff, decide_eq_true_iff]
  constructor
  · rintro ⟨h1, h2⟩
    refine ⟨⟨h1, Nat.lt_of_lt_of_le h2 (Nat.pow_le_pow_right (by decide) hn : 2 ^ n ≤ 2 ^ 24)⟩, fun f hf _ => getF_zero.2 ?_⟩
    exact Nat.testBit_lt_two_pow (Nat.lt_of_lt_of_le h2 (Nat.pow_le_pow_right (by decide) hf))
  · rintro ⟨⟨h1, h2⟩, h3⟩
    refine ⟨h1, Nat.lt_pow_two_of_testBit _ fun f hf => ?_⟩
    rcases Nat.lt_or_ge f 24 with h | h
    · exact getF_zero.1 (h3 f hf h)
    · exact Nat.testBit_lt_two_pow (Nat.lt_of_lt_of_le h2 (Nat.pow_le_pow_right (by decide) h : 2 ^ 24 ≤ 2 ^ f))
set_option maxRecDepth 20000 in
set_option maxHeartbeats 1000000 in
theorem rbelongs_any {w : World} {S : Nat → Prop} {g : Nat} {fs : List ByteArray} {L : List Nam} (h : RInv w S g fs L) (s : Snd) (hs : ok32 s) :
    Calls Tryd.prog 70 #[wptr g, sndV s] w fun e w' => e = .returned (.bool (belongs fs.length s)) ∧ Below w.heap.size w w' := by
  have h24 := h.ok.f24
  obtain ⟨A1, c1, v, ⟨h1, -⟩, -⟩ := h
  have hbb := belongs_bits (s := s) h24
  have hlt := h1.lt
  generalize fs.length = n at *
  have h1' : ∀ w' : World, Below w.heap.size w w' → Blk w' g 125 #[.bool true, .slice A1 n c1, v] := fun _ hb => h1.below hb hlt
  have hc1 := fun w => rvalid1_any s w hs
  have hc2 := fun (f : Nat) (hf : f < 24) (hv : validS s = true) w => get_any s f w hf hs hv
  have HC1 := Lib.hid hc1; have HC2 := Lib.hid hc2
  generalize hr : belongs n s = r at *
  have HBB := Lib.hid hbb
  clear hbb hc1 hc2 hs h1
  go_enter Tryd.func70, Tryd.ntmps70
  cases hv : validS s with
  | false =>
    obtain rfl : r = false := by
      cases r with
      | false => rfl
      | true => have := (HBB.out.1 rfl).1; rw [hv] at this; cases this
    rw [hv] at HC1
    obtain ⟨p, q⟩ := s
    clear hv HC2 HBB hr h1'
    go_wp2_with fail
    refine (HC1.out _).mono ?_
    rintro e w1 ⟨rfl, hb1⟩
    have HB := Lib.hid (((Below.refl _ w).alloc (Nat.le_refl _) (.cells #[.int .u32 p, .int .u32 q] 39)).trans (hb1.mono (by simp)))
    clear hb1
    go_wp2
    go_ret
    exact ⟨rfl, HB.out⟩
  | true =>
    have HC2' := fun f hf => HC2.out f hf hv
    rw [hv] at HC1 HBB
    have HV := Lib.hid HC2'
    have HBC := Lib.hid h1'
    obtain ⟨p, q⟩ := s
    clear hv HC2 HC2' hr h1'
    go_wp2_with fail
    refine (HC1.out _).mono ?_
    rintro e w1 ⟨rfl, hb1⟩
    have hw1 : Below w.heap.size w w1 := ((Below.refl _ w).alloc (Nat.le_refl _) (.cells #[.int .u32 p, .int .u32 q] 39)).trans (hb1.mono (by simp))
    have c0 := (Blk.new w 39 #[.int .u32 p, .int .u32 q]).below hb1 (by simp)
    have d0 := (HBC.out _ hw1).cell 1
    simp only [List.getElem?_toArray, List.getElem?_cons_zero, List.getElem?_cons_succ] at d0
    have hsz1 := hw1.size
    have hsz2 := hb1.size
    rw [World.size_alloc] at hsz2
    have HB := Lib.hid hw1; have HC0 := Lib.hid c0
    clear hb1 c0 hw1
    go_wp2
    go_loopw [5] (fun i wr => ∃ k : Nat, n ≤ k ∧ k ≤ 24 ∧ i = .int .i64 k ∧ (∀ f, n ≤ f → f < k → getF (p, q) f = 0) ∧ Below w1.heap.size w1 wr) (fun i _ => 24 - (RowKit.intOf i).toNat)
    case atStart => exact ⟨n, Nat.le_refl _, h24, rfl, fun f h1 h2 => by omega, Below.refl _ _⟩
    case round =>
      obtain ⟨k, hnk, hk, rfl, hall, hb⟩ := hrel
      obtain ⟨W, rfl⟩ : ∃ W, W = wr := ⟨_, rfl⟩
      have HALL := Lib.hid hall; have HBW := Lib.hid hb
      have cc := HC0.out.below hb (by omega)
      have k0 := cc.cell 0
      have k1 := cc.cell 1
      simp only [List.getElem?_toArray, List.getElem?_cons_zero, List.getElem?_cons_succ] at k0 k1
      have hsz := hb.size
      clear hall hb cc
      by_cases hlt : k < 24
      · have hkI : (k : Int) < 24 := by omega
        go_wp2_with fail
        refine (HV.out k hlt _).mono ?_
        rintro e w2 ⟨rfl, hb2⟩
        have HB2 := Lib.hid (hb2.mono (show w1.heap.size ≤ W.heap.size from hsz))
        clear hb2
        by_cases h0 : getF (p, q) k = 0
        · rw [h0]
          go_wp2
          go_roundw
          case rel => exact ⟨k + 1, by omega, by omega, by go_num, fun f h1 h2 => by
            rcases Nat.lt_or_ge f k with h | h
            · exact HALL.out f h1 h
            · obtain rfl : f = k := by omega
              exact h0, HBW.out.trans HB2.out⟩
          case measure => simp [RowKit.intOf]; omega
        · have hr0 : r = false := by
            cases r with
            | false => rfl
            | true => exact absurd ((HBB.out.1 rfl).2 k hnk hlt) h0
          subst hr0
          have hI : (getF (p, q) k == (0 : Int)) = false := by rw [beq_eq_false_iff_ne]; exact h0
          generalize getF (p, q) k = z at *
          go_wp2
          go_ret
          exact ⟨rfl, HB.out.trans ((HBW.out.trans HB2.out).mono hsz1)⟩
      · obtain rfl : k = 24 := by omega
        have hr1 : r = true := HBB.out.2 ⟨trivial, HALL.out⟩
        subst hr1
        go_wp2
        go_ret
        exact ⟨rfl, HB.out.trans (HBW.out.mono hsz1)⟩
end Go.Proofs.YtohggdfplmlinaaDoor
