/-
  PackSumOne: the walk. Conditions: bytes that can be read.
-/
import Derived.Test.YtipfhamhiaeieaaDoorPkCl
namespace Go.Proofs.YtipfhamhiaeieaaDoor
open Go.RowKit Go.Lib

theorem u8s_eq (xs : List UInt8) : (xs.map fun b => Value.int .u8 b.toNat) = (xs.map UInt8.toNat).map bv := by rw [List.map_map]; rfl
theorem u8s_one (xs : List UInt8) : ∀ u ∈ (xs.map fun b => Value.int .u8 (b.toNat : Int)), u.oneCell' = true := by
  intro u hu; obtain ⟨x, _, rfl⟩ := List.mem_map.1 hu; rfl
/-- The four bytes of a sum, behind what was summed. -/
theorem four_read {w : World} {base n c : Nat} {A : Option Addr} {xs : List UInt8} {s : Nat} (h : w.ownsRow base 5 1 (.slice A n c) n ((xs.map fun b => Value.int .u8 b.toNat) ++ [.int .u8 ((s : Int) % 256), .int .u8 ((s : Int) / 256 % 256), .int .u8 ((s : Int) / 65536 % 256), .int .u8 ((s : Int) / 16777216 % 256)])) (hs : sumB (xs.map UInt8.toNat) = s) :
    ∃ ys : List UInt8, ReadB w w.heap.size A n ys ∧ sumB (ys.map UInt8.toNat) = 558161692 := by
  refine ⟨xs ++ (fourB s).map UInt8.ofNat, ?_, ?_⟩
  · have := Reads.of_own h
    unfold ReadB
    rw [List.map_append]
    have e : (((fourB s).map UInt8.ofNat).map fun b => Value.int .u8 (b.toNat : Int)) = [.int .u8 ((s : Int) % 256), .int .u8 ((s : Int) / 256 % 256), .int .u8 ((s : Int) / 65536 % 256), .int .u8 ((s : Int) / 16777216 % 256)] := by
      simp only [fourB, List.map_cons, List.map_nil, UInt8.toNat_ofNat', Nat.reducePow, Nat.mod_mod]
      rfl
    rw [e]
    exact this
  · have e : ((fourB s).map UInt8.ofNat).map UInt8.toNat = fourB s := by
      simp only [fourB, List.map_cons, List.map_nil, UInt8.toNat_ofNat', Nat.reducePow, Nat.mod_mod]
    rw [List.map_append, e, ← hs]
    exact sum_own _ (fun c hc => by obtain ⟨x, _, rfl⟩ := List.mem_map.1 hc; exact x.toNat_lt)
theorem sum_set {xs : List UInt8} {i z : Nat} (hi : i < xs.length) (hz : z < 256) (hne : z ≠ xs[i].toNat) : sumB ((xs.set i (UInt8.ofNat z)).map UInt8.toNat) ≠ sumB (xs.map UInt8.toNat) := by
  have e1 : xs = xs.take i ++ xs[i] :: xs.drop (i + 1) := by rw [List.getElem_cons_drop, List.take_append_drop]
  have e2 : xs.set i (UInt8.ofNat z) = xs.take i ++ UInt8.ofNat z :: xs.drop (i + 1) := by rw [List.set_eq_take_append_cons_drop, if_pos hi]
  rw [e2]
  conv => rhs; rw [e1]
  rw [List.map_append, List.map_append, List.map_cons, List.map_cons, UInt8.toNat_ofNat', Nat.mod_eq_of_lt (by omega)]
  have hall : ∀ l : List UInt8, ∀ c ∈ l.map UInt8.toNat, c < 256 := fun l c hc => by obtain ⟨x, _, rfl⟩ := List.mem_map.1 hc; exact x.toNat_lt
  exact sum_one _ _ (hall _) (hall _) hz xs[i].toNat_lt hne
theorem sum_nil : sumB (([] : List UInt8).map UInt8.toNat) = 0 := by decide
set_option maxRecDepth 20000 in
set_option maxHeartbeats 2000000 in
theorem packSumOne_law (A : Option Addr) (n c : Nat) (xs : List UInt8) (k : Nat) (y : UInt8) (w : World) (hx : ReadB w w.heap.size A n xs) (hn : n ≤ maxLen) (hk : k < 65536) :
    Calls Tryd.prog 6 #[.slice A n c, .int .u16 k, .int .u8 y.toNat] w fun e w' => e = .returned (.bool true) ∧ Below w.heap.size w w' := by
  obtain ⟨i0, hi, hz0, hz1, hz2⟩ := info_parts (show (Tryd.prog.info? 5).map (fun i => (i.zero, i.size, i.bytes)) = some (some (.int .u8 0), 1, 1) by kernel_rfl)
  have HX := Lib.hid hx
  have HS := Lib.hid (sum_any A n c xs w hx hn)
  have HWK := Lib.hid works_any
  have hxl := hx.len
  have HXL := Lib.hid hxl
  clear hx hxl
  unfold maxLen at hn
  by_cases hg : (2000 : Int) < n
  · go_enter Tryd.func6, Tryd.ntmps6
    go_wp2_with fail
    refine (HWK.out _).mono ?_
    rintro e w1 ⟨rfl, hb⟩
    have HB := Lib.hid hb
    clear hb
    go_wp2
    go_ret
    exact ⟨rfl, HB.out⟩
  · obtain ⟨s, hs⟩ : ∃ s, sumB (xs.map UInt8.toNat) = s := ⟨_, rfl⟩
    rw [hs] at HS
    have HSE := Lib.hid hs
    clear hs
    go_enter Tryd.func6, Tryd.ntmps6
    go_wp2_with fail
    refine HS.out.mono ?_
    rintro e w1 ⟨rfl, rfl⟩
    go_wp2_with fail
    refine (cloneB_any A n c _ w w.heap.size HX.out (u8s_one xs) (Nat.le_refl _) (by omega)).mono ?_
    rintro e w1 ⟨v1, rfl, ho1, hb1⟩
    obtain ⟨A1, c1, rfl, hn1, hc1⟩ := ownsRow_form ho1
    have HO1 := Lib.hid ho1; have HB1 := Lib.hid hb1
    clear ho1 hb1
    have hrn := reads_lit w1 5 1 4 [.int .u8 ((s : Int) % 256), .int .u8 ((s : Int) / 256 % 256), .int .u8 ((s : Int) / 65536 % 256), .int .u8 ((s : Int) / 16777216 % 256)] rfl
    have HRN := Lib.hid hrn
    clear hrn
    go_wp2_with (at_builtin; refine wpList_append_any _ rfl _ _ _ rfl w.heap.size 5 i0 (.int .u8 0) 1 1 Tryd.underlying35 hi hz0 hz1 hz2 rfl (by decide) _ _ _ rfl (HO1.out.alloc _) (w1.heap.size + 1) _ _ _ [.int .u8 ((s : Int) % 256), .int .u8 ((s : Int) / 256 % 256), .int .u8 ((s : Int) / 65536 % 256), .int .u8 ((s : Int) / 16777216 % 256)] rfl HRN.out (by simp [Value.oneCell']) (by unfold maxLen; omega) (by omega) (by have := HB1.out.size; simp; omega) ?_; intro v2 w2 hown2 hgrow2 _; have HB2 := Lib.hid ((HB1.out.alloc HB1.out.size _).grown hgrow2 (by have := HB1.out.size; simp; omega) (fun g hg => (HO1.out.lt g hg).1)); have HO2 := Lib.hid hown2; obtain ⟨A2, c2, rfl, hn2, hc2⟩ := ownsRow_form hown2; clear hown2 hgrow2)
    obtain ⟨ys, hys, hsy⟩ := four_read HO2.out HSE.out
    have hS2 := sum_any A2 (n + 4) c2 ys w2 hys (by unfold maxLen; omega)
    rw [hsy] at hS2
    have hSn := sum_any none 0 0 [] w2 Reads.none_ (by unfold maxLen; omega)
    rw [sum_nil] at hSn
    have HSN := Lib.hid hSn
    refine hS2.mono ?_
    clear hS2 hys hsy hSn HO1 HRN HO2
    rintro e w3 ⟨rfl, rfl⟩
    go_wp2_with fail
    refine HSN.out.mono ?_
    clear HSN
    rintro e w3 ⟨rfl, rfl⟩
    by_cases h0 : n = 0
    · subst h0
      go_wp2_with fail
      refine (HWK.out _).mono ?_
      rintro e w4 ⟨rfl, hb⟩
      have HB := Lib.hid (HB2.out.trans (hb.mono HB2.out.size))
      clear hb
      go_wp2
      go_ret
      exact ⟨rfl, HB.out⟩
    have h0I : ¬ ((n : Int) = 0) := by omega
    have h0B : ((n : Int) == 0) = false := by rw [beq_eq_false_iff_ne]; omega
    go_wp2_with fail
    refine (cloneB_any A n c _ w2 w.heap.size (Reads.below HX.out HB2.out) (u8s_one xs) HB2.out.size (by omega)).mono ?_
    rintro e w3 ⟨v3, rfl, ho3, hb3⟩
    obtain ⟨A3, c3, rfl, hn3, hc3⟩ := ownsRow_form ho3
    have HO3 := Lib.hid ho3; have HB3 := Lib.hid (HB2.out.trans (hb3.mono HB2.out.size)); have HZ := Lib.hid HB2.out.size
    clear ho3 hb3
    obtain ⟨q, rfl, hq, cur, hblk, hcur⟩ : ∃ q, A3 = some ⟨q, 0, none⟩ ∧ w2.heap.size ≤ q ∧ ∃ cur, Blk w3 q 5 cur ∧ cur.toList.take n = (xs.map fun b => Value.int .u8 b.toNat) := by
      rcases HO3.out.2 with ⟨h', h''⟩ | ⟨q, cap, cur, h', hb, hg', h3, h4, hs, ht⟩
      · exact absurd h'' h0
      · simp only [Value.slice.injEq] at h'
        exact ⟨q, h'.1, hb, cur, hg', by rw [Nat.mul_one] at ht; exact ht⟩
    obtain ⟨i, hi0⟩ : ∃ i, k % n = i := ⟨_, rfl⟩
    have hin : i < n := hi0 ▸ Nat.mod_lt _ (by omega)
    have hkn : (k : Int) % (n : Int) = (i : Int) := by rw [← hi0]; rfl
    have hinI : (i : Int) < (n : Int) := by omega
    have hix : i < xs.length := by rw [HXL.out]; exact hin
    have hcell : w3.cell? ⟨q, i, none⟩ = some (.int .u8 xs[i].toNat) := by
      rw [hblk.cell i, ← Array.getElem?_toList]
      have := congrArg (fun l => l[i]?) hcur
      simp only [List.getElem?_take, if_pos hin, List.getElem?_map, List.getElem?_eq_getElem hix, Option.map_some] at this
      exact this
    have hfz := hblk.frozen i
    have HQ := Lib.hid hq; have HI0 := Lib.hid hi0
    clear hblk hcur hi0
    obtain ⟨x, hx⟩ : ∃ x, xs[i] = x := ⟨_, rfl⟩
    have HX0 := Lib.hid hx
    rw [hx] at hcell
    clear hx hq
    go_wp2_with fail
    obtain ⟨z, hz0⟩ : ∃ z, x.toNat ^^^ max y.toNat 1 = z := ⟨_, rfl⟩
    have hzb : bits .xor .u8 (x.toNat : Int) (max (y.toNat : Int) 1) = (z : Int) := by
      have hy := y.toNat_lt
      have e : (max (y.toNat : Int) 1) = ((max y.toNat 1 : Nat) : Int) := by omega
      rw [e, u8_xor_nat _ _ x.toNat_lt (by omega), hz0]
    have hz256 : z < 256 := by
      have hy := y.toNat_lt
      rw [← hz0]
      exact Nat.xor_lt_two_pow (n := 8) x.toNat_lt (by omega)
    have hzne : z ≠ xs[i].toNat := by
      rw [HX0.out, ← hz0]
      intro h
      have := congrArg (fun t => x.toNat ^^^ t) h
      simp [← Nat.xor_assoc] at this
    rw [hzb]
    have hne := sum_set hix hz256 hzne
    rw [HSE.out] at hne
    have ho4 := own_set (k := i) HO3.out (.int .u8 (z : Int))
    have hb4 : Below w.heap.size w (w3.setCell ⟨q, i, none⟩ (.int .u8 (z : Int))) := HB3.out.setCell (by have := HZ.out; have := HQ.out; show w.heap.size ≤ q; omega) _
    obtain ⟨w4, hw4⟩ : ∃ w4, w3.setCell ⟨q, i, none⟩ (.int .u8 (z : Int)) = w4 := ⟨_, rfl⟩
    rw [hw4] at ho4 hb4 ⊢
    have hrd : ReadB w4 w4.heap.size (some ⟨q, 0, none⟩) n (xs.set i (UInt8.ofNat z)) := by
      have := Reads.of_own ho4
      unfold ReadB
      rw [List.map_set, UInt8.toNat_ofNat', Nat.mod_eq_of_lt (by omega)]
      exact this
    have hS4 := sum_any (some ⟨q, 0, none⟩) n c3 _ w4 hrd (by unfold maxLen; omega)
    obtain ⟨s', hs'⟩ : ∃ s', sumB ((xs.set i (UInt8.ofNat z)).map UInt8.toNat) = s' := ⟨_, rfl⟩
    rw [hs'] at hS4 hne
    have hneB : ((s' : Int) != (s : Int)) = true := by rw [bne_iff_ne]; omega
    have HB4 := Lib.hid hb4
    refine hS4.mono ?_
    clear hS4 hrd ho4 hb4 hw4 hzb hz0 hs' hne hzne
    rintro e w5 ⟨rfl, rfl⟩
    go_wp2_with fail
    refine (HWK.out _).mono ?_
    rintro e w6 ⟨rfl, hb⟩
    have HB := Lib.hid (HB4.out.trans (hb.mono HB4.out.size))
    clear hb
    go_wp2
    go_ret
    exact ⟨rfl, HB.out⟩
end Go.Proofs.YtipfhamhiaeieaaDoor
