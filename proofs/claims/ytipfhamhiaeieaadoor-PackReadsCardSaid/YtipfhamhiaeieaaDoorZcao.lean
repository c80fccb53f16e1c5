/-
  layer 43: Same, two times the same law. Conditions: laws that can be read. (Printed by same.py.)
-/
import Derived.Test.YtipfhamhiaeieaaDoorZcPkSm
import Derived.Test.YtipfhamhiaeieaaDoorZcah
import Derived.Deep.QuietTactic
import Derived.BigQuiet
import Derived.WalkKit
import Derived.Test.YtipfhamhiaeieaaDoorProg
import Derived.Test.YtipfhamhiaeieaaDoorZcaa
import Derived.Laws.BitsAllLaws
namespace Go.Proofs.YtipfhamhiaeieaaDoor
open Go.RowKit Go.Lib

set_option linter.unusedSimpArgs false in
set_option maxRecDepth 20000 in
set_option maxHeartbeats 4000000 in
theorem sameLaw_any (w : World) (B : Nat) (l : Lw) (cs1 cs2 : List Value) (h1 : LawC w B l cs1) (h2 : LawC w B l cs2) (hB : B ≤ w.heap.size) (hnm : l.name.size ≤ maxLen) :
    Calls Tryd.prog 28 #[.agg cs1.toArray, .agg cs2.toArray] w fun e w' => e = .returned (.bool true) ∧ Below w.heap.size w w' := by
  obtain ⟨k1a, s1a, n1a, lo1a, hi1a, A1a, m1a, c1a, k2a, s2a, n2a, lo2a, hi2a, A2a, m2a, c2a, A3a, c3a, A4a, c4a, rfl, -, -, -, -, hs3, hs4, hm3, hm4⟩ := h1.form
  obtain ⟨k1b, s1b, n1b, lo1b, hi1b, A1b, m1b, c1b, k2b, s2b, n2b, lo2b, hi2b, A2b, m2b, c2b, A3b, c3b, A4b, c4b, rfl, -, -, -, -, -, -, -, -⟩ := h2.form
  obtain ⟨nm, left, right, ifs, outs, mode⟩ := l
  simp only at hs3 hs4 hm3 hm4 hnm ⊢
  unfold maxLen at hm3 hm4 hnm
  have hst := ((Below.refl w.heap.size w).alloc (Nat.le_refl _) (.cells #[.string nm, .int .i64 k1a, .int .u32 s1a.1, .int .u32 s1a.2, .bool n1a, .int .i64 lo1a, .int .i64 hi1a, .slice A1a m1a c1a, .int .i64 k2a, .int .u32 s2a.1, .int .u32 s2a.2, .bool n2a, .int .i64 lo2a, .int .i64 hi2a, .slice A2a m2a c2a, .slice A3a ifs.length c3a, .slice A4a outs.length c4a, .int .i64 mode] 31)).alloc (by simp) (.cells #[.string nm, .int .i64 k1b, .int .u32 s1b.1, .int .u32 s1b.2, .bool n1b, .int .i64 lo1b, .int .i64 hi1b, .slice A1b m1b c1b, .int .i64 k2b, .int .u32 s2b.1, .int .u32 s2b.2, .bool n2b, .int .i64 lo2b, .int .i64 hi2b, .slice A2b m2b c2b, .slice A3b ifs.length c3b, .slice A4b outs.length c4b, .int .i64 mode] 31)
  have b1 := (Blk.new w 31 #[.string nm, .int .i64 k1a, .int .u32 s1a.1, .int .u32 s1a.2, .bool n1a, .int .i64 lo1a, .int .i64 hi1a, .slice A1a m1a c1a, .int .i64 k2a, .int .u32 s2a.1, .int .u32 s2a.2, .bool n2a, .int .i64 lo2a, .int .i64 hi2a, .slice A2a m2a c2a, .slice A3a ifs.length c3a, .slice A4a outs.length c4a, .int .i64 mode]).alloc (.cells #[.string nm, .int .i64 k1b, .int .u32 s1b.1, .int .u32 s1b.2, .bool n1b, .int .i64 lo1b, .int .i64 hi1b, .slice A1b m1b c1b, .int .i64 k2b, .int .u32 s2b.1, .int .u32 s2b.2, .bool n2b, .int .i64 lo2b, .int .i64 hi2b, .slice A2b m2b c2b, .slice A3b ifs.length c3b, .slice A4b outs.length c4b, .int .i64 mode] 31)
  have b2 := Blk.new (w.alloc (.cells #[.string nm, .int .i64 k1a, .int .u32 s1a.1, .int .u32 s1a.2, .bool n1a, .int .i64 lo1a, .int .i64 hi1a, .slice A1a m1a c1a, .int .i64 k2a, .int .u32 s2a.1, .int .u32 s2a.2, .bool n2a, .int .i64 lo2a, .int .i64 hi2a, .slice A2a m2a c2a, .slice A3a ifs.length c3a, .slice A4a outs.length c4a, .int .i64 mode] 31)) 31 #[.string nm, .int .i64 k1b, .int .u32 s1b.1, .int .u32 s1b.2, .bool n1b, .int .i64 lo1b, .int .i64 hi1b, .slice A1b m1b c1b, .int .i64 k2b, .int .u32 s2b.1, .int .u32 s2b.2, .bool n2b, .int .i64 lo2b, .int .i64 hi2b, .slice A2b m2b c2b, .slice A3b ifs.length c3b, .slice A4b outs.length c4b, .int .i64 mode]
  rw [World.size_alloc] at b2
  have hl1 := h1.below (hst.mono hB)
  have hl2 := h2.below (hst.mono hB)
  obtain ⟨Z0, hZ0⟩ : ∃ Z, (w.alloc (.cells #[.string nm, .int .i64 k1a, .int .u32 s1a.1, .int .u32 s1a.2, .bool n1a, .int .i64 lo1a, .int .i64 hi1a, .slice A1a m1a c1a, .int .i64 k2a, .int .u32 s2a.1, .int .u32 s2a.2, .bool n2a, .int .i64 lo2a, .int .i64 hi2a, .slice A2a m2a c2a, .slice A3a ifs.length c3a, .slice A4a outs.length c4a, .int .i64 mode] 31)).alloc (.cells #[.string nm, .int .i64 k1b, .int .u32 s1b.1, .int .u32 s1b.2, .bool n1b, .int .i64 lo1b, .int .i64 hi1b, .slice A1b m1b c1b, .int .i64 k2b, .int .u32 s2b.1, .int .u32 s2b.2, .bool n2b, .int .i64 lo2b, .int .i64 hi2b, .slice A2b m2b c2b, .slice A3b ifs.length c3b, .slice A4b outs.length c4b, .int .i64 mode] 31) = Z := ⟨_, rfl⟩
  have hsz0 : Z0.heap.size = w.heap.size + 1 + 1 := by rw [← hZ0]; simp
  rw [hZ0] at hst b1 b2 hl1 hl2
  have hp1 := fun W (hW : Below Z0.heap.size Z0 W) => law_parts (hl1.below (hW.mono (by omega)))
  have hp2 := fun W (hW : Below Z0.heap.size Z0 W) => law_parts (hl2.below (hW.mono (by omega)))
  have HZ0 := Lib.hid hZ0; have HST := Lib.hid hst; have HB1 := Lib.hid b1; have HB2 := Lib.hid b2; have HP1 := Lib.hid hp1; have HP2 := Lib.hid hp2
  clear hZ0 hst b1 b2 hl1 hl2 hp1 hp2 h1 h2 hs3 hs4
  show Calls _ _ #[.agg #[.string nm, .int .i64 k1a, .int .u32 s1a.1, .int .u32 s1a.2, .bool n1a, .int .i64 lo1a, .int .i64 hi1a, .slice A1a m1a c1a, .int .i64 k2a, .int .u32 s2a.1, .int .u32 s2a.2, .bool n2a, .int .i64 lo2a, .int .i64 hi2a, .slice A2a m2a c2a, .slice A3a ifs.length c3a, .slice A4a outs.length c4a, .int .i64 mode], .agg #[.string nm, .int .i64 k1b, .int .u32 s1b.1, .int .u32 s1b.2, .bool n1b, .int .i64 lo1b, .int .i64 hi1b, .slice A1b m1b c1b, .int .i64 k2b, .int .u32 s2b.1, .int .u32 s2b.2, .bool n2b, .int .i64 lo2b, .int .i64 hi2b, .slice A2b m2b c2b, .slice A3b ifs.length c3b, .slice A4b outs.length c4b, .int .i64 mode]] _ _
  go_enter Tryd.func28, Tryd.ntmps28
  go_wp2_with fail
  rw [HZ0.out]
  clear HZ0
  refine (same_any _ left _ _ Z0 B (Nat.le_refl _) (HP1.out _ (Below.refl _ _)).1 (HP2.out _ (Below.refl _ _)).1 (by omega)).mono ?_
  rintro e w1 ⟨rfl, hb1⟩
  obtain ⟨y0, y1, y2, y3, y4, y5, y6, y7, y8, y9, y10, y11, y12, y13, y14, y15, y16, y17⟩ := (HB1.out.below hb1 (by omega)).eighteen
  obtain ⟨v0, v1, v2, v3, v4, v5, v6, v7, v8, v9, v10, v11, v12, v13, v14, v15, v16, v17⟩ := (HB2.out.below hb1 (by omega)).eighteen
  have H1 := Lib.hid hb1
  have hsz1 := hb1.size
  clear hb1
  go_wp2_with fail
  refine (same_any _ right _ _ w1 B (Nat.le_refl _) (HP1.out _ H1.out).2.1 (HP2.out _ H1.out).2.1 (by omega)).mono ?_
  rintro e w2 ⟨rfl, hb2⟩
  clear y0 y1 y2 y3 y4 y5 y6 y7 y8 y9 y10 y11 y12 y13 y14 y15 y16 y17 v0 v1 v2 v3 v4 v5 v6 v7 v8 v9 v10 v11 v12 v13 v14 v15 v16 v17
  have hb2' := H1.out.trans (hb2.mono hsz1)
  obtain ⟨y0, y1, y2, y3, y4, y5, y6, y7, y8, y9, y10, y11, y12, y13, y14, y15, y16, y17⟩ := (HB1.out.below hb2' (by omega)).eighteen
  obtain ⟨v0, v1, v2, v3, v4, v5, v6, v7, v8, v9, v10, v11, v12, v13, v14, v15, v16, v17⟩ := (HB2.out.below hb2' (by omega)).eighteen
  have H2 := Lib.hid hb2'
  have hsz2 := hb2'.size
  clear hb2 hb2'
  go_wp2
  clear y0 y1 y2 y3 y4 y5 y6 y7 y8 y9 y10 y11 y12 y13 y14 y15 y16 y17 v0 v1 v2 v3 v4 v5 v6 v7 v8 v9 v10 v11 v12 v13 v14 v15 v16 v17
  go_loopw [5] (fun i wr => ∃ j : Nat, j ≤ ifs.length ∧ i = .int .i64 j ∧ Below Z0.heap.size Z0 wr) (fun i _ => ifs.length - (RowKit.intOf i).toNat)
  case atStart => exact ⟨0, Nat.zero_le _, rfl, H2.out⟩
  case round =>
    obtain ⟨j, hj, rfl, hb⟩ := hrel
    obtain ⟨y0, y1, y2, y3, y4, y5, y6, y7, y8, y9, y10, y11, y12, y13, y14, y15, y16, y17⟩ := (HB1.out.below hb (by omega)).eighteen
    obtain ⟨v0, v1, v2, v3, v4, v5, v6, v7, v8, v9, v10, v11, v12, v13, v14, v15, v16, v17⟩ := (HB2.out.below hb (by omega)).eighteen
    obtain ⟨-, -, r1, -⟩ := HP1.out _ hb
    obtain ⟨-, -, r2, -⟩ := HP2.out _ hb
    have HB := Lib.hid hb
    clear hb
    by_cases hlt : j < ifs.length
    · have hjI : (j : Int) < (ifs.length : Int) := by omega
      obtain ⟨ad1, rfl, had1, e0, e1⟩ := snd_cells r1 hlt
      obtain ⟨ad2, rfl, had2, f0, f1⟩ := snd_cells r2 hlt
      clear r1 r2
      generalize ifs[j] = s at *
      go_wp2
      go_quiet (fail)
      go_wp2
      go_roundw
      case rel => exact ⟨j + 1, by omega, by go_num, HB.out.trans (⟨rfl, rfl, rfl, Nat.le_refl _, fun _ _ => rfl⟩)⟩
      case measure => simp [RowKit.intOf]; omega
    · obtain rfl : j = ifs.length := by omega
      clear r1 r2
      go_wp2
      clear y0 y1 y2 y3 y4 y5 y6 y7 y8 y9 y10 y11 y12 y13 y14 y15 y16 y17 v0 v1 v2 v3 v4 v5 v6 v7 v8 v9 v10 v11 v12 v13 v14 v15 v16 v17
      go_loopw [6] (fun i wr => ∃ j : Nat, j ≤ outs.length ∧ i = .int .i64 j ∧ Below Z0.heap.size Z0 wr) (fun i _ => outs.length - (RowKit.intOf i).toNat)
      case atStart => exact ⟨0, Nat.zero_le _, rfl, HB.out⟩
      case round =>
        obtain ⟨j, hj, rfl, hb⟩ := hrel
        obtain ⟨y0, y1, y2, y3, y4, y5, y6, y7, y8, y9, y10, y11, y12, y13, y14, y15, y16, y17⟩ := (HB1.out.below hb (by omega)).eighteen
        obtain ⟨v0, v1, v2, v3, v4, v5, v6, v7, v8, v9, v10, v11, v12, v13, v14, v15, v16, v17⟩ := (HB2.out.below hb (by omega)).eighteen
        obtain ⟨-, -, -, r1⟩ := HP1.out _ hb
        obtain ⟨-, -, -, r2⟩ := HP2.out _ hb
        have HC := Lib.hid hb
        clear hb
        by_cases hlt : j < outs.length
        · have hjI : (j : Int) < (outs.length : Int) := by omega
          obtain ⟨ad1, rfl, had1, e0, e1, e2, e3, e4, e5⟩ := out_cells r1 hlt
          obtain ⟨ad2, rfl, had2, f0, f1, f2, f3, f4, f5⟩ := out_cells r2 hlt
          clear r1 r2
          generalize outs[j] = s at *
          go_wp2
          go_quiet (fail)
          go_wp2
          go_roundw
          case rel => exact ⟨j + 1, by omega, by go_num, HC.out.trans (⟨rfl, rfl, rfl, Nat.le_refl _, fun _ _ => rfl⟩)⟩
          case measure => simp [RowKit.intOf]; omega
        · obtain rfl : j = outs.length := by omega
          clear r1 r2
          go_wp2
          go_ret
          exact ⟨rfl, HST.out.trans (HC.out.mono (by omega))⟩
end Go.Proofs.YtipfhamhiaeieaaDoor
namespace Go.Proofs.YtipfhamhiaeieaaDoor

def crcP : Nat := 3988292384
def crcBit (r : Nat) : Nat := if r % 2 = 1 then (r / 2) ^^^ crcP else r / 2
def crcBits : Nat → Nat → Nat
  | 0, r => r
  | k + 1, r => crcBits k (crcBit r)
def crcByte (r c : Nat) : Nat := crcBits 8 (r ^^^ c)
def crcAll (r : Nat) (b : List Nat) : Nat := b.foldl crcByte r
def ones : Nat := 4294967295
/-- The checksum of bytes. -/
def sumB (b : List Nat) : Nat := ones ^^^ crcAll ones b
theorem crcBit_lt {r : Nat} (h : r < 4294967296) : crcBit r < 4294967296 := by
  unfold crcBit crcP
  split
  · exact Nat.xor_lt_two_pow (n := 32) (by omega) (by decide)
  · omega
theorem crcBits_lt : ∀ (k : Nat) {r : Nat}, r < 4294967296 → crcBits k r < 4294967296
  | 0, _, h => h
  | k + 1, _, h => crcBits_lt k (crcBit_lt h)
theorem crcByte_lt {r c : Nat} (h : r < 4294967296) (hc : c < 256) : crcByte r c < 4294967296 := crcBits_lt 8 (Nat.xor_lt_two_pow (n := 32) h (by omega))
theorem crcAll_lt : ∀ (b : List Nat) {r : Nat}, r < 4294967296 → (∀ c ∈ b, c < 256) → crcAll r b < 4294967296
  | [], _, h, _ => h
  | c :: b, _, h, hb => crcAll_lt b (crcByte_lt h (hb c (List.mem_cons_self ..))) (fun x hx => hb x (List.mem_cons_of_mem _ hx))
theorem xor_par (a b : Nat) : (a ^^^ b) % 2 = (a % 2 + b % 2) % 2 := by
  have h := Nat.xor_mod_two_pow (a := a) (b := b) (n := 1)
  simp only [Nat.pow_one] at h
  rw [h]
  rcases Nat.mod_two_eq_zero_or_one a with e1 | e1 <;> rcases Nat.mod_two_eq_zero_or_one b with e2 | e2 <;> rw [e1, e2] <;> rfl
theorem xor_half (a b : Nat) : (a ^^^ b) / 2 = (a / 2) ^^^ (b / 2) := by
  have h := Nat.xor_div_two_pow (a := a) (b := b) (n := 1)
  simpa using h
def crcMask (r : Nat) : Nat := if r % 2 = 1 then crcP else 0
theorem crcBit_mask (r : Nat) : crcBit r = (r / 2) ^^^ crcMask r := by
  unfold crcBit crcMask
  split <;> simp
theorem crcMask_xor (a b : Nat) : crcMask (a ^^^ b) = crcMask a ^^^ crcMask b := by
  unfold crcMask
  rw [xor_par]
  rcases Nat.mod_two_eq_zero_or_one a with e1 | e1 <;> rcases Nat.mod_two_eq_zero_or_one b with e2 | e2 <;> rw [e1, e2] <;> simp
/-- Linear. -/
theorem crcBit_xor (a b : Nat) : crcBit (a ^^^ b) = crcBit a ^^^ crcBit b := by
  rw [crcBit_mask, crcBit_mask, crcBit_mask, xor_half, crcMask_xor]
  ac_rfl
theorem crcBits_xor : ∀ (k a b : Nat), crcBits k (a ^^^ b) = crcBits k a ^^^ crcBits k b
  | 0, _, _ => rfl
  | k + 1, a, b => by
    show crcBits k (crcBit (a ^^^ b)) = _
    rw [crcBit_xor, crcBits_xor k]; rfl
theorem crcBits_double : ∀ (k a : Nat), crcBits k (a * 2 ^ k) = a
  | 0, a => by show a * 1 = a; omega
  | k + 1, a => by
    show crcBits k (crcBit (a * 2 ^ (k + 1))) = a
    have h : crcBit (a * 2 ^ (k + 1)) = a * 2 ^ k := by
      have e : a * 2 ^ (k + 1) = a * 2 ^ k * 2 := by rw [Nat.pow_succ, Nat.mul_assoc]
      unfold crcBit
      rw [e, if_neg (by omega)]; omega
    rw [h, crcBits_double k]
/-- A byte's steps by the table. -/
theorem crc_table (x : Nat) : crcBits 8 x = crcBits 8 (x % 256) ^^^ (x / 256) := by
  have h : x = (x % 256) ^^^ (x / 256 * 2 ^ 8) := by
    have h1 : (x % 256) ^^^ (x / 256 * 2 ^ 8) = x / 256 * 2 ^ 8 + x % 256 := by
      rw [Nat.xor_comm]
      have := Nat.two_pow_add_eq_or_of_lt (i := 8) (b := x % 256) (by omega) (x / 256)
      rw [Nat.mul_comm, this]
      apply Nat.eq_of_testBit_eq
      intro i
      rw [Nat.testBit_xor, Nat.testBit_or]
      by_cases hi : i < 8
      · have : Nat.testBit (2 ^ 8 * (x / 256)) i = false := by rw [Nat.testBit_two_pow_mul, decide_eq_false (by omega)]; rfl
        rw [this]; simp
      · have : Nat.testBit (x % 256) i = false := Nat.testBit_lt_two_pow (Nat.lt_of_lt_of_le (by omega) (Nat.pow_le_pow_right (by decide) (show 8 ≤ i by omega)))
        rw [this]; simp
    omega
  conv => lhs; rw [h]
  rw [crcBits_xor, crcBits_double]
/-- One step tells where it came from. -/
theorem crcBit_inj {a b : Nat} (ha : a < 4294967296) (hb : b < 4294967296) (h : crcBit a = crcBit b) : a = b := by
  have key : ∀ x, x < 4294967296 → (crcBit x).testBit 31 = decide (x % 2 = 1) := by
    intro x hx
    unfold crcBit
    have h1 : (x / 2).testBit 31 = false := Nat.testBit_lt_two_pow (by omega)
    by_cases e : x % 2 = 1
    · rw [if_pos e, Nat.testBit_xor, h1, decide_eq_true e]; decide
    · rw [if_neg e, h1, decide_eq_false e]
  have k1 := key a ha
  have k2 := key b hb
  rw [h, k2] at k1
  rw [decide_eq_decide] at k1
  unfold crcBit at h
  by_cases e : a % 2 = 1
  · rw [if_pos e, if_pos (k1.2 e)] at h
    have := congrArg (· ^^^ crcP) h
    simp only [Nat.xor_assoc, Nat.xor_self, Nat.xor_zero] at this
    have := k1.2 e
    omega
  · rw [if_neg e, if_neg (fun x => e (k1.1 x))] at h
    have := fun x => e (k1.1 x)
    omega
theorem crcBits_inj : ∀ (k : Nat) {a b : Nat}, a < 4294967296 → b < 4294967296 → crcBits k a = crcBits k b → a = b
  | 0, _, _, _, _, h => h
  | k + 1, _, _, ha, hb, h => crcBit_inj ha hb (crcBits_inj k (crcBit_lt ha) (crcBit_lt hb) h)
theorem xor_left_inj {a b c : Nat} (h : a ^^^ b = a ^^^ c) : b = c := by
  have := congrArg (a ^^^ ·) h
  simpa only [← Nat.xor_assoc, Nat.xor_self, Nat.zero_xor] using this
theorem crcByte_inj_c {r c d : Nat} (hr : r < 4294967296) (hc : c < 256) (hd : d < 256) (h : crcByte r c = crcByte r d) : c = d :=
  xor_left_inj (crcBits_inj 8 (Nat.xor_lt_two_pow (n := 32) hr (by omega)) (Nat.xor_lt_two_pow (n := 32) hr (by omega)) h)
theorem crcByte_inj_r {r s c : Nat} (hr : r < 4294967296) (hs : s < 4294967296) (hc : c < 256) (h : crcByte r c = crcByte s c) : r = s := by
  have := crcBits_inj 8 (Nat.xor_lt_two_pow (n := 32) hr (by omega)) (Nat.xor_lt_two_pow (n := 32) hs (by omega)) h
  rw [Nat.xor_comm r c, Nat.xor_comm s c] at this
  exact xor_left_inj this
theorem crcAll_inj : ∀ (b : List Nat) {r s : Nat}, r < 4294967296 → s < 4294967296 → (∀ c ∈ b, c < 256) → crcAll r b = crcAll s b → r = s
  | [], _, _, _, _, _, h => h
  | c :: b, r, s, hr, hs, hb, h => by
    have hc := hb c (List.mem_cons_self ..)
    exact crcByte_inj_r hr hs hc (crcAll_inj b (crcByte_lt hr hc) (crcByte_lt hs hc) (fun x hx => hb x (List.mem_cons_of_mem _ hx)) h)
/-- One other byte: another sum. -/
theorem sum_one (b d : List Nat) {x y : Nat} (hb : ∀ c ∈ b, c < 256) (hd : ∀ c ∈ d, c < 256) (hx : x < 256) (hy : y < 256) (hne : x ≠ y) : sumB (b ++ x :: d) ≠ sumB (b ++ y :: d) := by
  intro h
  unfold sumB at h
  have h1 := xor_left_inj h
  unfold crcAll at h1
  rw [List.foldl_append, List.foldl_append, List.foldl_cons, List.foldl_cons] at h1
  have hr : crcAll ones b < 4294967296 := crcAll_lt b (by decide) hb
  exact hne (crcByte_inj_c hr hx hy (crcAll_inj d (crcByte_lt hr hx) (crcByte_lt hr hy) hd h1))
/-- The four bytes of a number. -/
def fourB (n : Nat) : List Nat := [n % 256, n / 256 % 256, n / 65536 % 256, n / 16777216 % 256]
theorem xor_div256 (a b : Nat) : (a ^^^ b) / 256 = (a / 256) ^^^ (b / 256) := by
  have h := Nat.xor_div_two_pow (a := a) (b := b) (n := 8)
  simpa using h
theorem xor_mod256 (a b : Nat) : (a ^^^ b) % 256 = (a % 256) ^^^ (b % 256) := by
  have h := Nat.xor_mod_two_pow (a := a) (b := b) (n := 8)
  simpa using h
/-- What one byte of the sum itself does. -/
theorem crc_own {k r : Nat} : crcByte (k ^^^ r) ((r % 256) ^^^ 255) = crcBits 8 ((k % 256) ^^^ 255) ^^^ (k / 256) ^^^ (r / 256) := by
  unfold crcByte
  rw [crc_table]
  have h1 : ((k ^^^ r) ^^^ ((r % 256) ^^^ 255)) % 256 = (k % 256) ^^^ 255 := by
    rw [xor_mod256, xor_mod256, xor_mod256, Nat.mod_mod, show 255 % 256 = 255 from rfl]
    have : (k % 256 ^^^ r % 256) ^^^ (r % 256 ^^^ 255) = (k % 256) ^^^ ((r % 256 ^^^ r % 256) ^^^ 255) := by ac_rfl
    rw [this, Nat.xor_self, Nat.zero_xor]
  have h2 : ((k ^^^ r) ^^^ ((r % 256) ^^^ 255)) / 256 = (k / 256) ^^^ (r / 256) := by
    rw [xor_div256, xor_div256, xor_div256, show r % 256 / 256 = 0 by omega, show 255 / 256 = 0 from rfl]
    simp
  rw [h1, h2, Nat.xor_assoc]
theorem ones_byte (r : Nat) : (ones ^^^ r) % 256 = (r % 256) ^^^ 255 := by
  rw [xor_mod256, Nat.xor_comm]; rfl
/-- The sum of bytes and their sum. -/
theorem sum_own (b : List Nat) (hb : ∀ c ∈ b, c < 256) : sumB (b ++ fourB (sumB b)) = 558161692 := by
  obtain ⟨r, hr⟩ : ∃ r, crcAll ones b = r := ⟨_, rfl⟩
  have hlt : r < 4294967296 := hr ▸ crcAll_lt b (by decide) hb
  have hs : sumB b = ones ^^^ r := by unfold sumB; rw [hr]
  have f0 : (ones ^^^ r) % 256 = (r % 256) ^^^ 255 := ones_byte r
  have f1 : (ones ^^^ r) / 256 % 256 = (r / 256 % 256) ^^^ 255 := by rw [xor_div256, xor_mod256, Nat.xor_comm]; rfl
  have f2 : (ones ^^^ r) / 65536 % 256 = (r / 65536 % 256) ^^^ 255 := by
    rw [show 65536 = 256 * 256 from rfl, ← Nat.div_div_eq_div_mul, ← Nat.div_div_eq_div_mul, xor_div256, xor_div256, xor_mod256, Nat.xor_comm]; rfl
  have f3 : (ones ^^^ r) / 16777216 % 256 = (r / 16777216 % 256) ^^^ 255 := by
    rw [show 16777216 = 256 * 256 * 256 from rfl, ← Nat.div_div_eq_div_mul, ← Nat.div_div_eq_div_mul, ← Nat.div_div_eq_div_mul, ← Nat.div_div_eq_div_mul, xor_div256, xor_div256, xor_div256, xor_mod256, Nat.xor_comm]; rfl
  have g1 := crc_own (k := 0) (r := r)
  rw [Nat.zero_xor] at g1
  unfold sumB crcAll at hs ⊢
  rw [List.foldl_append, hs]
  unfold crcAll at hr
  rw [hr]
  unfold fourB
  rw [f0, f1, f2, f3]
  simp only [List.foldl_cons, List.foldl_nil]
  have e2 : r / 65536 = r / 256 / 256 := by omega
  have e3 : r / 16777216 = r / 256 / 256 / 256 := by omega
  rw [e2, e3, g1, crc_own, crc_own, crc_own]
  have e4 : r / 256 / 256 / 256 / 256 = 0 := by omega
  rw [e4, Nat.xor_zero]
  decide
end Go.Proofs.YtipfhamhiaeieaaDoor
namespace Go.Proofs.YtipfhamhiaeieaaDoor
open Go.RowKit Go.Lib

theorem crcBits_succ : ∀ (k r : Nat), crcBits (k + 1) r = crcBit (crcBits k r)
  | 0, _ => rfl
  | k + 1, r => by
    show crcBits (k + 1) (crcBit r) = _
    rw [crcBits_succ k]; rfl
theorem bit_step {X : Nat} (h : X < 4294967296) : bits .xor .u32 ((X : Int) / 2) (bits .and .u32 3988292384 (-((X : Int) % 2) % 4294967296)) = ((crcBit X : Nat) : Int) := by
  have e : (X : Int) / 2 = ((X / 2 : Nat) : Int) := by omega
  rw [e]
  unfold crcBit crcP
  by_cases h1 : X % 2 = 1
  · rw [if_pos h1, show (-((X : Int) % 2) % 4294967296) = 4294967295 by omega, show bits .and .u32 3988292384 4294967295 = ((3988292384 : Nat) : Int) by decide]
    exact u32_xor_nat (X / 2) 3988292384 (by omega) (by decide)
  · rw [if_neg h1, show (-((X : Int) % 2) % 4294967296) = 0 by omega, show bits .and .u32 3988292384 0 = ((0 : Nat) : Int) by decide]
    have := u32_xor_nat (X / 2) 0 (by omega) (by decide)
    simpa using this
set_option maxRecDepth 20000 in
set_option maxHeartbeats 4000000 in
theorem sum_any (A : Option Addr) (n c : Nat) (xs : List UInt8) (w : World) (hx : ReadB w w.heap.size A n xs) (hn : n ≤ maxLen) :
    Calls Tryd.prog 19 #[.slice A n c] w fun e w' => e = .returned (.int .u32 (sumB (xs.map UInt8.toNat) : Nat)) ∧ w = w' := by
  unfold maxLen at hn
  obtain ⟨res, hres⟩ : ∃ res : Nat, sumB (xs.map UInt8.toNat) = res := ⟨_, rfl⟩
  rw [hres]
  have HX := Lib.hid hx; have HRES := Lib.hid hres
  clear hx hres
  go_enter Tryd.func19, Tryd.ntmps19
  have hxl := HX.out.len
  go_wp2
  go_loopw [3, 8] (fun r i wr => ∃ k : Nat, k ≤ n ∧ i = .int .i64 k ∧ r = .int .u32 (crcAll ones ((xs.map UInt8.toNat).take k) : Nat) ∧ w = wr) (fun _ i _ => n - (RowKit.intOf i).toNat)
  case atStart => exact ⟨0, by omega, rfl, rfl, rfl⟩
  case round =>
    obtain ⟨k, hk, rfl, rfl, rfl⟩ := hrel
    by_cases hlt : k < n
    · have hkl : k < xs.length := by omega
      obtain ⟨ad, rfl, had, hcx⟩ := ReadB.at_ (k := k) HX.out hkl
      have hkI : (k : Int) < (n : Int) := by omega
      have hR : crcAll ones ((xs.map UInt8.toNat).take k) < 4294967296 := crcAll_lt _ (by decide) (fun c hc => by
        obtain ⟨x, _, rfl⟩ := List.mem_map.1 (List.mem_of_mem_take hc)
        exact x.toNat_lt)
      have hst : crcAll ones ((xs.map UInt8.toNat).take (k + 1)) = crcByte (crcAll ones ((xs.map UInt8.toNat).take k)) xs[k].toNat := by
        rw [List.take_succ_eq_append_getElem (by simpa using hkl)]
        unfold crcAll
        rw [List.foldl_append, List.foldl_cons, List.foldl_nil, List.getElem_map]
      have hc256 := xs[k].toNat_lt
      generalize xs[k].toNat = cc at hcx hst hc256
      generalize crcAll ones ((xs.map UInt8.toNat).take k) = R at hR hst ⊢
      have HST := Lib.hid hst
      have hxor := u32_xor_nat R cc hR (by omega)
      clear hst
      have hY : R ^^^ cc < 4294967296 := Nat.xor_lt_two_pow (n := 32) hR (by omega)
      go_wp2
      generalize hYe : R ^^^ cc = Y at *
      have HY := Lib.hid hYe
      clear hYe
      clear hxor
      go_loopw [3, 16] (fun r i wr => ∃ j : Nat, j ≤ 8 ∧ i = .int .i64 j ∧ r = .int .u32 (crcBits j Y : Nat) ∧ w = wr) (fun _ i _ => 8 - (RowKit.intOf i).toNat)
      case atStart => exact ⟨0, by omega, rfl, rfl, rfl⟩
      case round =>
        obtain ⟨j, hj, rfl, rfl, rfl⟩ := hrel
        by_cases hlt2 : j < 8
        · have hX : crcBits j Y < 4294967296 := crcBits_lt j hY
          have hst2 := crcBits_succ j Y
          generalize crcBits j Y = X at hX hst2 ⊢
          have HST2 := Lib.hid hst2
          have hbs := bit_step hX
          have hand : bits .and .u32 (X : Int) 1 = (X : Int) % 2 := by
            have := u32_and_nat X 1 hX (by decide)
            rw [Nat.and_one_is_mod] at this
            simpa using this
          clear hst2
          go_wp2
          go_roundw
          case rel => exact ⟨j + 1, by omega, by go_num, by rw [HST2.out, ← hbs], trivial⟩
          case measure => simp [RowKit.intOf]; omega
        · obtain rfl : j = 8 := by omega
          go_wp2
          go_roundw
          case rel => exact ⟨k + 1, by omega, by go_num, by rw [HST.out]; unfold crcByte; rw [HY.out], trivial⟩
          case measure => simp [RowKit.intOf]; omega
    · obtain rfl : k = n := by omega
      rw [List.take_of_length_le (by rw [List.length_map]; omega)]
      have hr := HRES.out
      unfold sumB at hr
      have hlt3 : crcAll ones (xs.map UInt8.toNat) < 4294967296 := crcAll_lt _ (by decide) (fun c hc => by
        obtain ⟨x, _, rfl⟩ := List.mem_map.1 hc
        exact x.toNat_lt)
      generalize crcAll ones (xs.map UInt8.toNat) = R at hr hlt3 ⊢
      have hm : bits .xor .u32 IntKind.u32.max (R : Int) = ((ones ^^^ R : Nat) : Int) := u32_xor_nat 4294967295 R (by decide) hlt3
      go_wp2
      go_ret
      exact ⟨by rw [← hr, ← hm]; rfl, rfl⟩
end Go.Proofs.YtipfhamhiaeieaaDoor
