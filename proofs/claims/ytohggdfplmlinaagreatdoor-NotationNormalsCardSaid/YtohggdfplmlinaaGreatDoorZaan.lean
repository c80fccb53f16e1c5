/-
  layer 4: the reference's features of a sound, and whether a sound belongs to an inventory. Conditions: sounds of 32 bits that are valid; an inventory in memory.
-/
import Derived.Test.YtohggdfplmlinaaGreatDoorZaam
import Derived.Test.YtohggdfplmlinaaGreatDoorZaag
import Derived.Deep.QuietTactic
import Derived.BigQuiet
namespace Go.Proofs.YtohggdfplmlinaaGreatDoor
open Go.RowKit Go.Lib

set_option maxRecDepth 20000 in
set_option maxHeartbeats 1000000 in
theorem feature_any (f : Nat) (w : World) (hf : f < 24) : Calls Tryz.prog 103 #[.int .i64 f] w fun e w' => e = .returned (.bool true) ∧ w = w' := by
  have h0 : (0 : Int) ≤ (f : Int) := by omega
  have h1 : (f : Int) < 24 := by omega
  clear hf
  go_enter Tryz.func103, Tryz.ntmps103
  go_wp2
  go_ret
  exact ⟨rfl, rfl⟩
/-- What a sound says of a feature. -/
def getF (s : Snd) (f : Nat) : Int := if s.1.testBit f then 1 else if s.2.testBit f then -1 else 0
set_option maxRecDepth 20000 in
set_option maxHeartbeats 1000000 in
theorem get_any (s : Snd) (f : Nat) (w : World) (hf : f < 24) (hs : ok32 s) (hv : validS s = true) : Calls Tryz.prog 88 #[sndV s, .int .i64 f] w fun e w' => e = .returned (.int .i64 (getF s f)) ∧ Below w.heap.size w w' := by
  have h0 : (0 : Int) ≤ (f : Int) := by omega
  have h1 : (f : Int) < 24 := by omega
  have ha := bit_int s.1 f hs.1
  have hb := bit_int s.2 f hs.2
  have hc1 := fun w => rvalid1_any s w hs
  rw [hv] at hc1
  have hc2 := fun w => feature_any f w hf
  have hg : getF s f = if s.1.testBit f then 1 else if s.2.testBit f then -1 else 0 := rfl
  have HC1 := Lib.hid hc1; have HC2 := Lib.hid hc2
  clear hc1 hc2 hf hs hv
  generalize getF s f = r at *
  obtain ⟨p, q⟩ := s
  go_enter Tryz.func88, Tryz.ntmps88
  cases hta : p.testBit f with
  | true =>
    rw [hta] at ha hg
    simp only [if_true] at ha hg
    subst hg
    clear hb hta
    go_wp2_with fail
    refine (HC1.out _).mono ?_
    rintro e w1 ⟨rfl, hb1⟩
    have c0 := (Blk.new w 30 #[.int .u32 p, .int .u32 q]).below hb1 (by simp)
    have k0 := c0.cell 0
    have k1 := c0.cell 1
    simp only [List.getElem?_toArray, List.getElem?_cons_zero, List.getElem?_cons_succ] at k0 k1
    have HB := Lib.hid (((Below.refl _ w).alloc (Nat.le_refl _) (.cells #[.int .u32 p, .int .u32 q] 30)).trans (hb1.mono (by simp)))
    clear hb1 c0
    go_wp2_with fail
    refine (HC2.out _).mono ?_
    rintro e w2 ⟨rfl, rfl⟩
    go_wp2
    go_ret
    exact ⟨rfl, HB.out⟩
  | false =>
    rw [hta] at ha hg
    simp only [Bool.false_eq_true, if_false] at ha hg
    clear hta
    cases htb : q.testBit f with
    | true =>
      rw [htb] at hb hg
      simp only [if_true] at hb hg
      subst hg
      clear htb
      go_wp2_with fail
      refine (HC1.out _).mono ?_
      rintro e w1 ⟨rfl, hb1⟩
      have c0 := (Blk.new w 30 #[.int .u32 p, .int .u32 q]).below hb1 (by simp)
      have k0 := c0.cell 0
      have k1 := c0.cell 1
      simp only [List.getElem?_toArray, List.getElem?_cons_zero, List.getElem?_cons_succ] at k0 k1
      have HB := Lib.hid (((Below.refl _ w).alloc (Nat.le_refl _) (.cells #[.int .u32 p, .int .u32 q] 30)).trans (hb1.mono (by simp)))
      clear hb1 c0
      go_wp2_with fail
      refine (HC2.out _).mono ?_
      rintro e w2 ⟨rfl, rfl⟩
      go_wp2
      go_ret
      exact ⟨rfl, HB.out⟩
    | false =>
      rw [htb] at hb hg
      simp only [Bool.false_eq_true, if_false] at hb hg
      subst hg
      clear htb
      go_wp2_with fail
      refine (HC1.out _).mono ?_
      rintro e w1 ⟨rfl, hb1⟩
      have c0 := (Blk.new w 30 #[.int .u32 p, .int .u32 q]).below hb1 (by simp)
      have k0 := c0.cell 0
      have k1 := c0.cell 1
      simp only [List.getElem?_toArray, List.getElem?_cons_zero, List.getElem?_cons_succ] at k0 k1
      have HB := Lib.hid (((Below.refl _ w).alloc (Nat.le_refl _) (.cells #[.int .u32 p, .int .u32 q] 30)).trans (hb1.mono (by simp)))
      clear hb1 c0
      go_wp2_with fail
      refine (HC2.out _).mono ?_
      rintro e w2 ⟨rfl, rfl⟩
      go_wp2
      go_ret
      exact ⟨rfl, HB.out⟩
theorem getF_zero {s : Snd} {f : Nat} : getF s f = 0 ↔ (s.1 ||| s.2).testBit f = false := by
  unfold getF
  rw [Nat.testBit_or]
  cases s.1.testBit f <;> cases s.2.testBit f <;> simp
theorem belongs_bits {n : Nat} {s : Snd} (hn : n ≤ 24) : belongs n s = true ↔ validS s = true ∧ ∀ f, n ≤ f → f < 24 → getF s f = 0 := by
  unfold belongs validS
  rw [decide_eq_true_iff, decide_eq_true_iff]
  constructor
  · rintro ⟨h1, h2⟩
    refine ⟨⟨h1, Nat.lt_of_lt_of_le h2 (Nat.pow_le_pow_right (by decide) hn : 2 ^ n ≤ 2 ^ 24)⟩, fun f hf _ => getF_zero.2 ?_⟩
    exact Nat.testBit_lt_two_pow (Nat.lt_of_lt_of_le h2 (Nat.pow_le_pow_right (by decide) hf))
  · rintro ⟨⟨h1, h2⟩, h3⟩
    refine ⟨h1, Nat.lt_pow_two_of_testBit _ fun f hf => ?_⟩
    rcases Nat.lt_or_ge f 24 with h | h
    · exact getF_zero.1 (h3 f hf h)
    · exact Nat.testBit_lt_two_pow (Nat.lt_of_lt_of_le h2 (Nat.pow_le_pow_right (by decide) h : 2 ^ 24 ≤ 2 ^ f))
set_option maxRecDepth 20000 in
set_option maxHeartbeats 1000000 in
theorem rbelongs_any {w : World} {S : Nat → Prop} {g : Nat} {fs : List ByteArray} {L : List Nam} (h : RInv w S g fs L) (s : Snd) (hs : ok32 s) :
    Calls Tryz.prog 62 #[wptr g, sndV s] w fun e w' => e = .returned (.bool (belongs fs.length s)) ∧ Below w.heap.size w w' := by
  have h24 := h.ok.f24
  obtain ⟨A1, c1, v, ⟨h1, -⟩, -⟩ := h
  have hbb := belongs_bits (s := s) h24
  have hlt := h1.lt
  generalize fs.length = n at *
  have h1' : ∀ w' : World, Below w.heap.size w w' → Blk w' g 107 #[.bool true, .slice A1 n c1, v] := fun _ hb => h1.below hb hlt
  have hc1 := fun w => rvalid1_any s w hs
  have hc2 := fun (f : Nat) (hf : f < 24) (hv : validS s = true) w => get_any s f w hf hs hv
  have HC1 := Lib.hid hc1; have HC2 := Lib.hid hc2
  generalize hr : belongs n s = r at *
  have HBB := Lib.hid hbb
  clear hbb hc1 hc2 hs h1
  go_enter Tryz.func62, Tryz.ntmps62
  cases hv : validS s with
  | false =>
    obtain rfl : r = false := by
      cases r with
      | false => rfl
      | true => have := (HBB.out.1 rfl).1; rw [hv] at this; cases this
    rw [hv] at HC1
    obtain ⟨p, q⟩ := s
    clear hv HC2 HBB hr h1'
    go_wp2_with fail
    refine (HC1.out _).mono ?_
    rintro e w1 ⟨rfl, hb1⟩
    have HB := Lib.hid (((Below.refl _ w).alloc (Nat.le_refl _) (.cells #[.int .u32 p, .int .u32 q] 30)).trans (hb1.mono (by simp)))
    clear hb1
    go_wp2
    go_ret
    exact ⟨rfl, HB.out⟩
  | true =>
    have HC2' := fun f hf => HC2.out f hf hv
    rw [hv] at HC1 HBB
    have HV := Lib.hid HC2'
    have HBC := Lib.hid h1'
    obtain ⟨p, q⟩ := s
    clear hv HC2 HC2' hr h1'
    go_wp2_with fail
    refine (HC1.out _).mono ?_
    rintro e w1 ⟨rfl, hb1⟩
    have hw1 : Below w.heap.size w w1 := ((Below.refl _ w).alloc (Nat.le_refl _) (.cells #[.int .u32 p, .int .u32 q] 30)).trans (hb1.mono (by simp))
    have c0 := (Blk.new w 30 #[.int .u32 p, .int .u32 q]).below hb1 (by simp)
    have d0 := (HBC.out _ hw1).cell 1
    simp only [List.getElem?_toArray, List.getElem?_cons_zero, List.getElem?_cons_succ] at d0
    have hsz1 := hw1.size
    have hsz2 := hb1.size
    rw [World.size_alloc] at hsz2
    have HB := Lib.hid hw1; have HC0 := Lib.hid c0
    clear hb1 c0 hw1
    go_wp2
    go_loopw [5] (fun i wr => ∃ k : Nat, n ≤ k ∧ k ≤ 24 ∧ i = .int .i64 k ∧ (∀ f, n ≤ f → f < k → getF (p, q) f = 0) ∧ Below w1.heap.size w1 wr) (fun i _ => 24 - (RowKit.intOf i).toNat)
    case atStart => exact ⟨n, Nat.le_refl _, h24, rfl, fun f h1 h2 => by omega, Below.refl _ _⟩
    case round =>
      obtain ⟨k, hnk, hk, rfl, hall, hb⟩ := hrel
      obtain ⟨W, rfl⟩ : ∃ W, W = wr := ⟨_, rfl⟩
      have HALL := Lib.hid hall; have HBW := Lib.hid hb
      have cc := HC0.out.below hb (by omega)
      have k0 := cc.cell 0
      have k1 := cc.cell 1
      simp only [List.getElem?_toArray, List.getElem?_cons_zero, List.getElem?_cons_succ] at k0 k1
      have hsz := hb.size
      clear hall hb cc
      by_cases hlt : k < 24
      · have hkI : (k : Int) < 24 := by omega
        go_wp2_with fail
        refine (HV.out k hlt _).mono ?_
        rintro e w2 ⟨rfl, hb2⟩
        have HB2 := Lib.hid (hb2.mono (show w1.heap.size ≤ W.heap.size from hsz))
        clear hb2
        by_cases h0 : getF (p, q) k = 0
        · rw [h0]
          go_wp2
          go_roundw
          case rel => exact ⟨k + 1, by omega, by omega, by go_num, fun f h1 h2 => by
            rcases Nat.lt_or_ge f k with h | h
            · exact HALL.out f h1 h
            · obtain rfl : f = k := by omega
              exact h0, HBW.out.trans HB2.out⟩
          case measure => simp [RowKit.intOf]; omega
        · have hr0 : r = false := by
            cases r with
            | false => rfl
            | true => exact absurd ((HBB.out.1 rfl).2 k hnk hlt) h0
          subst hr0
          have hI : (getF (p, q) k == (0 : Int)) = false := by rw [beq_eq_false_iff_ne]; exact h0
          generalize getF (p, q) k = z at *
          go_wp2
          go_ret
          exact ⟨rfl, HB.out.trans ((HBW.out.trans HB2.out).mono hsz1)⟩
      · obtain rfl : k = 24 := by omega
        have hr1 : r = true := HBB.out.2 ⟨trivial, HALL.out⟩
        subst hr1
        go_wp2
        go_ret
        exact ⟨rfl, HB.out.trans (HBW.out.mono hsz1)⟩
end Go.Proofs.YtohggdfplmlinaaGreatDoor
namespace Go.Proofs.YtohggdfplmlinaaGreatDoor
open Go.RowKit Go.Lib

/-- A feature put into a sound. -/
def putS (s : Snd) (f : Nat) (v : Int) : Snd := (if v = 1 then andn s.1 (2 ^ f) ||| 2 ^ f else andn s.1 (2 ^ f), if v = -1 then andn s.2 (2 ^ f) ||| 2 ^ f else andn s.2 (2 ^ f))
set_option linter.unusedSimpArgs false in
set_option maxRecDepth 20000 in
set_option maxHeartbeats 1000000 in
theorem put_any (s : Snd) (f : Nat) (v : Int) (w : World) (hf : f < 24) (hs : ok32 s) (hv : v = 0 ∨ v = 1 ∨ v = -1) : Calls Tryz.prog 97 #[sndV s, .int .i64 f, .int .i64 v] w fun e w' => e = .returned (sndV (putS s f v)) ∧ Below w.heap.size w w' := by
  have hb : 2 ^ f < 4294967296 := by
    have := Nat.pow_le_pow_right (n := 2) (by decide) (show f ≤ 24 by omega)
    omega
  have hp : (2 : Int) ^ f % 4294967296 = ((2 ^ f : Nat) : Int) := by
    have e : ((2 : Int) ^ f) = ((2 ^ f : Nat) : Int) := by simp
    rw [e]; exact Int.emod_eq_of_lt (Int.natCast_nonneg _) (Int.ofNat_lt.2 hb)
  have f1 : bits .andNot .u32 (s.1 : Int) ((2 : Int) ^ f % 4294967296) = ((andn s.1 (2 ^ f) : Nat) : Int) := by rw [hp]; exact u32_andNot_nat s.1 (2 ^ f) hs.1 hb
  have f2 : bits .andNot .u32 (s.2 : Int) ((2 : Int) ^ f % 4294967296) = ((andn s.2 (2 ^ f) : Nat) : Int) := by rw [hp]; exact u32_andNot_nat s.2 (2 ^ f) hs.2 hb
  have f3 : bits .or .u32 ((andn s.1 (2 ^ f) : Nat) : Int) ((2 : Int) ^ f % 4294967296) = ((andn s.1 (2 ^ f) ||| 2 ^ f : Nat) : Int) := by rw [hp]; exact u32_or_nat _ _ (andn32 hs.1) hb
  have f4 : bits .or .u32 ((andn s.2 (2 ^ f) : Nat) : Int) ((2 : Int) ^ f % 4294967296) = ((andn s.2 (2 ^ f) ||| 2 ^ f : Nat) : Int) := by rw [hp]; exact u32_or_nat _ _ (andn32 hs.2) hb
  have hf0 : (0 : Int) ≤ (f : Int) := by omega
  have hpu : putS s f v = (if v = 1 then andn s.1 (2 ^ f) ||| 2 ^ f else andn s.1 (2 ^ f), if v = -1 then andn s.2 (2 ^ f) ||| 2 ^ f else andn s.2 (2 ^ f)) := rfl
  obtain ⟨x, y⟩ := s
  simp only at *
  generalize andn x (2 ^ f) ||| 2 ^ f = o1 at *
  generalize andn y (2 ^ f) ||| 2 ^ f = o2 at *
  generalize andn x (2 ^ f) = a1 at *
  generalize andn y (2 ^ f) = a2 at *
  clear hp hb hs
  generalize putS (x, y) f v = r at *
  rcases hv with rfl | rfl | rfl
  · simp only [show ¬ (0 : Int) = 1 by decide, show ¬ (0 : Int) = -1 by decide, if_false] at hpu
    subst hpu
    go_enter Tryz.func97, Tryz.ntmps97
    go_wp2
    have hb := (Blk.new (w.alloc (.cells #[.int .u32 x, .int .u32 y] 30)) 30 #[.int .u32 a1, .int .u32 a2]).alloc (.cells #[.int .u32 a1, .int .u32 a2] 30)
    have g0 := hb.cell 0
    have g1 := hb.cell 1
    simp only [World.size_alloc, List.getElem?_toArray, List.getElem?_cons_zero, List.getElem?_cons_succ] at g0 g1
    have hbe := ((((Below.refl w.heap.size w).alloc (Nat.le_refl _) (.cells #[.int .u32 x, .int .u32 y] 30)).alloc (by simp) (.cells #[.int .u32 a1, .int .u32 a2] 30)).alloc (by simp; omega) (.cells #[.int .u32 a1, .int .u32 a2] 30))
    generalize ((w.alloc (.cells #[.int .u32 x, .int .u32 y] 30)).alloc (.cells #[.int .u32 a1, .int .u32 a2] 30)).alloc (.cells #[.int .u32 a1, .int .u32 a2] 30) = W at *
    exact bodyPost_ret (v := sndV (a1, a2)) (by simp [results, Tryz.results97, go_sem, g0, g1]) rfl ⟨rfl, hbe⟩
  · simp only [show ¬ (1 : Int) = -1 by decide, if_false, if_true] at hpu
    subst hpu
    go_enter Tryz.func97, Tryz.ntmps97
    go_wp2
    have hb := (Blk.new (w.alloc (.cells #[.int .u32 x, .int .u32 y] 30)) 30 #[.int .u32 o1, .int .u32 a2]).alloc (.cells #[.int .u32 o1, .int .u32 a2] 30)
    have g0 := hb.cell 0
    have g1 := hb.cell 1
    simp only [World.size_alloc, List.getElem?_toArray, List.getElem?_cons_zero, List.getElem?_cons_succ] at g0 g1
    have hbe := ((((Below.refl w.heap.size w).alloc (Nat.le_refl _) (.cells #[.int .u32 x, .int .u32 y] 30)).alloc (by simp) (.cells #[.int .u32 o1, .int .u32 a2] 30)).alloc (by simp; omega) (.cells #[.int .u32 o1, .int .u32 a2] 30))
    generalize ((w.alloc (.cells #[.int .u32 x, .int .u32 y] 30)).alloc (.cells #[.int .u32 o1, .int .u32 a2] 30)).alloc (.cells #[.int .u32 o1, .int .u32 a2] 30) = W at *
    exact bodyPost_ret (v := sndV (o1, a2)) (by simp [results, Tryz.results97, go_sem, g0, g1]) rfl ⟨rfl, hbe⟩
  · simp only [show ¬ (-1 : Int) = 1 by decide, if_false, if_true] at hpu
    subst hpu
    go_enter Tryz.func97, Tryz.ntmps97
    go_wp2
    have hb := (Blk.new (w.alloc (.cells #[.int .u32 x, .int .u32 y] 30)) 30 #[.int .u32 a1, .int .u32 o2]).alloc (.cells #[.int .u32 a1, .int .u32 o2] 30)
    have g0 := hb.cell 0
    have g1 := hb.cell 1
    simp only [World.size_alloc, List.getElem?_toArray, List.getElem?_cons_zero, List.getElem?_cons_succ] at g0 g1
    have hbe := ((((Below.refl w.heap.size w).alloc (Nat.le_refl _) (.cells #[.int .u32 x, .int .u32 y] 30)).alloc (by simp) (.cells #[.int .u32 a1, .int .u32 o2] 30)).alloc (by simp; omega) (.cells #[.int .u32 a1, .int .u32 o2] 30))
    generalize ((w.alloc (.cells #[.int .u32 x, .int .u32 y] 30)).alloc (.cells #[.int .u32 a1, .int .u32 o2] 30)).alloc (.cells #[.int .u32 a1, .int .u32 o2] 30) = W at *
    exact bodyPost_ret (v := sndV (a1, o2)) (by simp [results, Tryz.results97, go_sem, g0, g1]) rfl ⟨rfl, hbe⟩
theorem putS_ok {s : Snd} {f : Nat} {v : Int} (hs : ok32 s) (hf : f < 24) : ok32 (putS s f v) := by
  have hb : 2 ^ f < 4294967296 := by
    have := Nat.pow_le_pow_right (n := 2) (by decide) (show f ≤ 24 by omega)
    omega
  unfold putS
  constructor
  · show (if v = 1 then _ else _) < _
    split
    · exact or32 (andn32 hs.1) hb
    · exact andn32 hs.1
  · show (if v = -1 then _ else _) < _
    split
    · exact or32 (andn32 hs.2) hb
    · exact andn32 hs.2
theorem getF_cases (s : Snd) (f : Nat) : getF s f = 0 ∨ getF s f = 1 ∨ getF s f = -1 := by
  unfold getF
  split
  · exact .inr (.inl rfl)
  · split
    · exact .inr (.inr rfl)
    · exact .inl rfl
/-- One feature of Change. -/
def stepC (c : Nat) (s : Snd) (o : Snd) (f : Nat) : Snd := if getF s f = 0 then (if c.testBit f then putS o f 0 else o) else putS (if c.testBit f then putS o f 0 else o) f (getF s f)
def chgK (x : Snd) (c : Nat) (s : Snd) (k : Nat) : Snd := (List.range k).foldl (stepC c s) x
theorem chgK_next {x s : Snd} {c k : Nat} : chgK x c s (k + 1) = stepC c s (chgK x c s k) k := by
  unfold chgK
  rw [List.range_succ, List.foldl_append]; rfl
theorem stepC_ok {o s : Snd} {c f : Nat} (ho : ok32 o) (hf : f < 24) : ok32 (stepC c s o f) := by
  unfold stepC
  have h1 : ok32 (if c.testBit f then putS o f 0 else o) := by
    split
    · exact putS_ok ho hf
    · exact ho
  split
  · exact h1
  · exact putS_ok h1 hf
theorem chgK_ok {x s : Snd} {c k : Nat} (hx : ok32 x) (hk : k ≤ 24) : ok32 (chgK x c s k) := by
  induction k with
  | zero => exact hx
  | succ k ih => rw [chgK_next]; exact stepC_ok (ih (by omega)) (by omega)
theorem not_bit {b i : Nat} (hb : b < 4294967296) : (4294967295 - b).testBit i = (decide (i < 32) && !b.testBit i) := by
  have e1 : 4294967295 - b = 2 ^ 32 - (b + 1) := by omega
  rw [e1, Nat.testBit_two_pow_sub_succ hb]
theorem andn_bit {a b i : Nat} (ha : a < 4294967296) (hb : b < 4294967296) : (andn a b).testBit i = (a.testBit i && !b.testBit i) := by
  unfold andn
  rw [Nat.testBit_and, not_bit hb]
  by_cases h : i < 32
  · rw [decide_eq_true h, Bool.true_and]
  · rw [Nat.testBit_lt_two_pow (Nat.lt_of_lt_of_le ha (Nat.pow_le_pow_right (n := 2) (by decide) (show 32 ≤ i by omega)))]; rfl
theorem putS_bits {s : Snd} {f i : Nat} {v : Int} (hs : ok32 s) (hf : f < 24) : (putS s f v).1.testBit i = (if i = f then decide (v = 1) else s.1.testBit i) ∧ (putS s f v).2.testBit i = (if i = f then decide (v = -1) else s.2.testBit i) := by
  have hb : 2 ^ f < 4294967296 := by
    have := Nat.pow_le_pow_right (n := 2) (by decide) (show f ≤ 24 by omega)
    omega
  have hp : (2 ^ f).testBit i = decide (f = i) := Nat.testBit_two_pow
  unfold putS
  constructor
  · show (if v = 1 then andn s.1 (2 ^ f) ||| 2 ^ f else andn s.1 (2 ^ f)).testBit i = _
    by_cases hv : v = 1
    · rw [if_pos hv, Nat.testBit_or, andn_bit hs.1 hb, hp, decide_eq_true hv]
      by_cases e : i = f
      · rw [if_pos e, decide_eq_true e.symm]; simp
      · rw [if_neg e, decide_eq_false (fun h => e h.symm)]; simp
    · rw [if_neg hv, andn_bit hs.1 hb, hp, decide_eq_false hv]
      by_cases e : i = f
      · rw [if_pos e, decide_eq_true e.symm]; simp
      · rw [if_neg e, decide_eq_false (fun h => e h.symm)]; simp
  · show (if v = -1 then andn s.2 (2 ^ f) ||| 2 ^ f else andn s.2 (2 ^ f)).testBit i = _
    by_cases hv : v = -1
    · rw [if_pos hv, Nat.testBit_or, andn_bit hs.2 hb, hp, decide_eq_true hv]
      by_cases e : i = f
      · rw [if_pos e, decide_eq_true e.symm]; simp
      · rw [if_neg e, decide_eq_false (fun h => e h.symm)]; simp
    · rw [if_neg hv, andn_bit hs.2 hb, hp, decide_eq_false hv]
      by_cases e : i = f
      · rw [if_pos e, decide_eq_true e.symm]; simp
      · rw [if_neg e, decide_eq_false (fun h => e h.symm)]; simp
/-- The features of the first k: as the set says where the mask is, as before elsewhere. -/
theorem chgK_bits {x s : Snd} {c : Nat} (hx : ok32 x) (hc : c &&& hasB s = 0) (hv : s.1 &&& s.2 = 0) {k : Nat} (hk : k ≤ 24) (i : Nat) :
    (chgK x c s k).1.testBit i = (if i < k ∧ (c ||| hasB s).testBit i = true then s.1.testBit i else x.1.testBit i) ∧ (chgK x c s k).2.testBit i = (if i < k ∧ (c ||| hasB s).testBit i = true then s.2.testBit i else x.2.testBit i) := by
  induction k with
  | zero => exact ⟨by rw [if_neg (by omega)]; rfl, by rw [if_neg (by omega)]; rfl⟩
  | succ k ih =>
    obtain ⟨h1, h2⟩ := ih (by omega)
    have hok := chgK_ok (c := c) (s := s) (k := k) hx (by omega)
    rw [chgK_next]
    have hcb : (c.testBit k && (s.1.testBit k || s.2.testBit k)) = false := by
      have := congrArg (fun n => n.testBit k) hc
      simp only [hasB, Nat.testBit_and, Nat.testBit_or, Nat.zero_testBit] at this
      exact this
    have hvb : (s.1.testBit k && s.2.testBit k) = false := by
      have := congrArg (fun n => n.testBit k) hv
      simp only [Nat.testBit_and, Nat.zero_testBit] at this
      exact this
    have hm : (c ||| hasB s).testBit i = (c.testBit i || (s.1.testBit i || s.2.testBit i)) := by simp only [hasB, Nat.testBit_or]
    have ho1 : ok32 (if c.testBit k then putS (chgK x c s k) k 0 else chgK x c s k) := by
      split
      · exact putS_ok hok (by omega)
      · exact hok
    by_cases e : i = k
    · subst e
      rw [if_neg (by omega)] at h1 h2
      have h3 : (i < i + 1 ∧ (c ||| hasB s).testBit i = true) = ((c.testBit i || (s.1.testBit i || s.2.testBit i)) = true) := by rw [hm]; simp
      simp only [h3]
      unfold stepC
      by_cases hg : getF s i = 0
      · rw [if_pos hg]
        have hz := getF_zero.1 hg
        rw [Nat.testBit_or] at hz
        simp only [Bool.or_eq_false_iff] at hz
        rw [hz.1, hz.2]
        cases hcc : c.testBit i
        · simp [h1, h2]
        · have hb := fun (v : Int) => putS_bits (i := i) (v := v) hok (show i < 24 by omega)
          simp [(hb 0).1, (hb 0).2]
      · rw [if_neg hg]
        have hb := putS_bits (i := i) (v := getF s i) ho1 (show i < 24 by omega)
        rw [hb.1, hb.2, if_pos rfl, if_pos rfl]
        unfold getF at hg ⊢
        revert hcb hvb hg
        cases s.1.testBit i <;> cases s.2.testBit i <;> cases c.testBit i <;> simp
    · have h3 : (i < k + 1 ∧ (c ||| hasB s).testBit i = true) = (i < k ∧ (c ||| hasB s).testBit i = true) := by
        rw [show (i < k + 1) = (i < k) from propext ⟨fun h => by omega, fun h => by omega⟩]
      simp only [h3]
      rw [← h1, ← h2]
      unfold stepC
      have hb0 := fun (v : Int) => putS_bits (i := i) (v := v) hok (show k < 24 by omega)
      have hb1 := fun (v : Int) => putS_bits (i := i) (v := v) ho1 (show k < 24 by omega)
      have h4 : (if c.testBit k then putS (chgK x c s k) k 0 else chgK x c s k).1.testBit i = (chgK x c s k).1.testBit i ∧ (if c.testBit k then putS (chgK x c s k) k 0 else chgK x c s k).2.testBit i = (chgK x c s k).2.testBit i := by
        split
        · exact ⟨by rw [(hb0 0).1, if_neg e], by rw [(hb0 0).2, if_neg e]⟩
        · exact ⟨rfl, rfl⟩
      split
      · exact h4
      · exact ⟨by rw [(hb1 _).1, if_neg e]; exact h4.1, by rw [(hb1 _).2, if_neg e]; exact h4.2⟩
theorem chgK_mix {x s : Snd} {c : Nat} (hx : ok32 x) (h24 : c ≤ 16777215) (hc : c &&& hasB s = 0) (hv : validS s = true) : chgK x c s 24 = mixS x s (c ||| hasB s) := by
  have hv' := of_decide_eq_true hv
  have hcl : c ||| hasB s < 2 ^ 24 := Nat.or_lt_two_pow (by omega) hv'.2
  have hm : c ||| hasB s < 4294967296 := Nat.lt_of_lt_of_le hcl (by decide)
  have hb := fun i => chgK_bits (c := c) hx hc hv'.1 (Nat.le_refl 24) i
  have key : ∀ (i : Nat) (a p q : Bool), a = (if i < 24 ∧ (c ||| hasB s).testBit i = true then p else q) → a = ((q && !(c ||| hasB s).testBit i) || (p && (c ||| hasB s).testBit i)) := by
    intro i a p q h
    rw [h]
    cases hi : (c ||| hasB s).testBit i with
    | false => simp
    | true =>
      have : i < 24 := by
        rcases Nat.lt_or_ge i 24 with h | h
        · exact h
        · rw [Nat.testBit_lt_two_pow (Nat.lt_of_lt_of_le hcl (Nat.pow_le_pow_right (n := 2) (by decide) h))] at hi
          cases hi
      simp [this]
  refine Prod.ext (Nat.eq_of_testBit_eq fun i => ?_) (Nat.eq_of_testBit_eq fun i => ?_)
  · rw [key i _ _ _ (hb i).1]
    unfold mixS
    simp only [Nat.testBit_or, Nat.testBit_and, andn_bit hx.1 hm]
  · rw [key i _ _ _ (hb i).2]
    unfold mixS
    simp only [Nat.testBit_or, Nat.testBit_and, andn_bit hx.2 hm]
end Go.Proofs.YtohggdfplmlinaaGreatDoor
