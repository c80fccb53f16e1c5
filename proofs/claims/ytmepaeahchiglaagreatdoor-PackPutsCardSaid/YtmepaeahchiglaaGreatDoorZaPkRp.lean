/-
  layer 43: the reference's pattern. Conditions: a valid pattern that can be read. (Printed by refpat.py.)
-/
import Derived.Test.YtmepaeahchiglaaGreatDoorZaae
import Derived.Test.YtmepaeahchiglaaGreatDoorZaad
namespace Go.Proofs.YtmepaeahchiglaaGreatDoor
open Go.RowKit Go.Lib

theorem refCountI_any (k : Int) (w : World) (h0 : 0 ≤ k) (hk : k < 4294967296) : Calls Tryz.prog 42 #[.int .i64 k] w (GivesB w (numB k.toNat)) := by
  have := refCount_any k.toNat w (by omega)
  rwa [show ((k.toNat : Nat) : Int) = k by omega] at this
/-- What the reference's pattern does with patterns of at most m nodes. -/
def RWritesPat (m : Nat) : Prop := ∀ (p : Pt) (k : Int) (s : Snd) (neg : Bool) (lo hi : Int) (A : Option Addr) (n c : Nat) (w : World) (B : Nat), ptSize p ≤ m → ptSize p ≤ 1000 → ptOk p = true → PatC w B p (patL k s neg lo hi (.slice A n c)) → B ≤ w.heap.size →
  Calls Tryz.prog 159 #[patV k s neg lo hi (.slice A n c)] w (GivesB w (patB p))
set_option maxRecDepth 20000 in
set_option maxHeartbeats 8000000 in
theorem refPat_step (m : Nat) (hm : RWritesPat m) : RWritesPat (m + 1) := by
  obtain ⟨i0, hi0, hz0, hz1, hz3⟩ := info_parts (show (Tryz.prog.info? 5).map (fun i => (i.zero, i.size, i.bytes)) = some (some (.int .u8 0), 1, 1) by kernel_rfl)
  rintro ⟨k, s, neg, lo, hi, l⟩ k' s' neg' lo' hi' A n c w B hsz h1000 hok hp hB
  rw [patC_mk] at hp
  obtain ⟨A', c', ys, he, h32, hc, hcm, hr, hps⟩ := hp
  simp only [patL, List.cons.injEq, Value.int.injEq, Value.bool.injEq, Value.slice.injEq, true_and, and_true] at he
  obtain ⟨rfl, h1, h2, rfl, rfl, rfl, rfl, rfl, rfl⟩ := he
  obtain ⟨a, b⟩ := s
  obtain ⟨a', b'⟩ := s'
  obtain rfl : a' = a := Int.natCast_inj.1 h1
  obtain rfl : b' = b := Int.natCast_inj.1 h2
  clear h1 h2
  rw [ptOk_mk, Bool.and_eq_true] at hok
  obtain ⟨hn, hks⟩ := hok
  rw [ptSize_mk] at hsz h1000
  have hl7 := ptSizes_len l
  have hst := (Below.refl w.heap.size w).alloc (Nat.le_refl _) (.cells #[.int .i64 k', .int .u32 a', .int .u32 b', .bool neg', .int .i64 lo', .int .i64 hi', .slice A l.length c] 58)
  have hbox := Blk.new w 58 #[.int .i64 k', .int .u32 a', .int .u32 b', .bool neg', .int .i64 lo', .int .i64 hi', .slice A l.length c]
  have hr0 := hr.below (hst.mono hB)
  have hps0 := hps.below (hst.mono hB)
  obtain ⟨Z0, hZ0⟩ : ∃ Z, w.alloc (.cells #[.int .i64 k', .int .u32 a', .int .u32 b', .bool neg', .int .i64 lo', .int .i64 hi', .slice A l.length c] 58) = Z := ⟨_, rfl⟩
  rw [hZ0] at hst hbox hr0 hps0
  have hsz0 := hbox.lt
  have hcases := nodeOk_cases hn
  have hk0 : 0 ≤ k' ∧ k' < 4294967296 := by omega
  obtain ⟨c0, c1, c2, c3, c4, c5, c6⟩ := hbox.seven
  have HZ0 := Lib.hid hZ0; have HST := Lib.hid hst; have HBOX := Lib.hid hbox; have HR := Lib.hid hr0; have HPS := Lib.hid hps0; have HKS := Lib.hid hks; have HM := Lib.hid hm
  clear hZ0 hst hbox hr0 hps0 hks hm hn hr hps
  rcases hcases with ⟨rfl, rfl, rfl, hl0⟩ | ⟨hk, hl0⟩ | hk | ⟨rfl, hl0, hlo, hlo2, hhi, hhi2⟩
  · have HL0 := Lib.hid hl0
    clear hl0
    cases neg'
    case false =>
      go_enter Tryz.func159, Tryz.ntmps159
      go_wp2_with fail
      rw [HZ0.out]
      go_wp2_with fail
      refine (refCountI_any _ Z0 hk0.1 hk0.2).mono ?_
      rintro e w1 ⟨v1, rfl, ho1, hb1⟩
      obtain ⟨x1, hx1, hxl1⟩ : ∃ x : List Nat, x = numB (Int.toNat (1)) ∧ x.length ≤ 5 := ⟨_, rfl, numB_len _⟩
      rw [← hx1] at ho1
      have HX1 := Lib.hid hx1; have HO1 := Lib.hid ho1; have HB1 := Lib.hid hb1
      clear hx1 ho1 hb1
      clear c0 c1 c2 c3 c4 c5 c6
      obtain ⟨c0, c1, c2, c3, c4, c5, c6⟩ := (HBOX.out.below HB1.out HBOX.out.lt).seven
      have hcs := fun W => refSound_any (a', b') W h32
      have HCS := Lib.hid hcs
      clear hcs
      go_wp2_with fail
      refine (HCS.out _).mono ?_
      rintro e u1 ⟨v2, rfl, ho2, hb2⟩
      obtain ⟨y1, hy, hyl1⟩ : ∃ y : List Nat, y = sndB (a', b') ∧ y.length ≤ 10 := ⟨_, rfl, sndB_len _⟩
      rw [← hy] at ho2
      obtain ⟨A2, q2, rfl, -, -⟩ := ownsRow_form ho2
      have hz2 := own_below' HO1.out hb2
      have hb2' := HB1.out.trans (hb2.mono HB1.out.size)
      have HO9 := Lib.hid ho2; have HZ9 := Lib.hid hz2; have HB9 := Lib.hid hb2'; have HY1 := Lib.hid hy
      clear ho2 hz2 hb2 hb2' hy
      clear c0 c1 c2 c3 c4 c5 c6
      obtain ⟨c0, c1, c2, c3, c4, c5, c6⟩ := (HBOX.out.below HB9.out HBOX.out.lt).seven
      go_wp2_with (first | (at_builtin; refine wpList_append_any _ rfl _ _ 36 rfl Z0.heap.size 5 i0 (.int .u8 0) 1 1 Tryz.underlying36 hi0 hz0 hz1 hz3 rfl (by decide) _ _ _ rfl HZ9.out _ _ _ _ (y1.map bv) rfl (Reads.of_own HO9.out) (bv_one _) (by unfold maxLen; omega) (by omega) (by have := HB9.out.size; (try simp); omega) ?_; intro v' w2 hown' hgrow hx'; have hb3 := HB9.out.grown hgrow HB9.out.size (fun g hg => (HZ9.out.lt g hg).1); clear hgrow hx'; clear HZ9 c0 c1 c2 c3 c4 c5 c6; obtain ⟨c0, c1, c2, c3, c4, c5, c6⟩ := (HBOX.out.below hb3 HBOX.out.lt).seven) | (at_builtin; refine wpList_append_any _ rfl _ _ 36 rfl Z0.heap.size 5 i0 (.int .u8 0) 1 1 Tryz.underlying36 hi0 hz0 hz1 hz3 rfl (by decide) _ _ _ rfl (World.ownsRow.alloc (w := w2) hown' (.cells #[bv 0] 5)) _ _ _ _ ([0].map bv) rfl (Reads.of_own (own_lit1 w2 0)) (bv_one _) (by unfold maxLen; omega) (by omega) (by have := hb3.size; (try simp); omega) ?_; intro v4 w3 hown4 hgrow hx'; have hb4 := (hb3.alloc hb3.size (.cells #[bv 0] 5)).grown hgrow (by have := hb3.size; simp; omega) (fun g hg => (hown'.lt g hg).1); clear hgrow hx'))
      obtain ⟨x2, hx, hxl2⟩ : ∃ x : List Nat, x = x1 ++ y1 ∧ x.length ≤ 15 := ⟨_, rfl, by rw [List.length_append]; omega⟩
      have hown2 : w2.ownsRow Z0.heap.size 5 1 v' x2.length (x2.map bv) := by
        rw [hx, List.length_append, List.map_append]
        exact hown'
      have HX2 := Lib.hid hx; have HO2 := Lib.hid hown2; have HB2 := Lib.hid hb3
      clear hx hown' hown2 hb3
      obtain ⟨y2, hy, hyl2⟩ : ∃ y : List Nat, y = [0] ∧ y.length ≤ 1 := ⟨_, rfl, Nat.le_refl _⟩
      have hown5 : w3.ownsRow Z0.heap.size 5 1 v4 (x2.length + y2.length) (x2.map bv ++ y2.map bv) := by
        rw [hy, HX2.out, List.length_append, List.map_append]
        exact hown4
      have HY2 := Lib.hid hy
      clear hown4 hy
      obtain ⟨x3, hx, hxl3⟩ : ∃ x : List Nat, x = x2 ++ y2 ∧ x.length ≤ 16 := ⟨_, rfl, by rw [List.length_append]; omega⟩
      have hown2 : w3.ownsRow Z0.heap.size 5 1 v4 x3.length (x3.map bv) := by
        rw [hx, List.length_append, List.map_append]
        exact hown5
      have HX3 := Lib.hid hx; have HO3 := Lib.hid hown2; have HB3 := Lib.hid hb4
      clear hx hown5 hown2 hb4
      go_wp2
      clear c0 c1 c2 c3 c4 c5 c6
      go_loopw [3, 4] (fun v i wr => ∃ j : Nat, j ≤ l.length ∧ i = .int .i64 j ∧ wr.ownsRow Z0.heap.size 5 1 v (x3 ++ patsB (l.take j)).length ((x3 ++ patsB (l.take j)).map bv) ∧ Below Z0.heap.size Z0 wr) (fun _ i _ => l.length - (RowKit.intOf i).toNat)
      case atStart => exact ⟨0, Nat.zero_le _, rfl, by rw [List.take_zero, patsB_nil, List.append_nil]; exact HO3.out, HB3.out⟩
      case round =>
        obtain ⟨j, hj, rfl, hown, hb⟩ := hrel
        obtain ⟨c0, c1, c2, c3, c4, c5, c6⟩ := (HBOX.out.below hb HBOX.out.lt).seven
        have HO := Lib.hid hown; have HB := Lib.hid hb
        clear hown hb
        by_cases hlt : j < l.length
        · have hkI : (j : Int) < (l.length : Int) := by omega
          have hlen : (x3 ++ patsB (l.take j)).length + (patB l[j]).length ≤ 30000 := by
            have := patsB_len (l.take j)
            have := patB_len l[j]
            have hsum := ptSizes_append (l.take j) (l.drop j)
            rw [List.take_append_drop, List.drop_eq_getElem_cons hlt, ptSizes_cons] at hsum
            rw [List.length_append]
            omega
          obtain ⟨ad, k1, s1, neg1, lo1, hi1, A1, n1, q1, rfl, had, hpc, d0, d1, d2, d3, d4, d5, d6⟩ := pat_cells (HR.out.below (HB.out.mono (Nat.le_of_lt (Nat.lt_of_le_of_lt hB hsz0)))) (HPS.out.below (HB.out.mono (Nat.le_of_lt (Nat.lt_of_le_of_lt hB hsz0)))) rfl hlt
          have hcall := HM.out l[j] k1 s1 neg1 lo1 hi1 A1 n1 q1 wr B (by have := ptSize_mem (List.getElem_mem hlt); omega) (by have := ptSize_mem (List.getElem_mem hlt); omega) (ptsOk_mem (List.getElem_mem hlt) HKS.out) hpc (by have := HB.out.size; omega)
          have hts : patsB (l.take (j + 1)) = patsB (l.take j) ++ patB l[j] := by rw [patsB_flat, patsB_flat, take_flat patB l j hlt]
          obtain ⟨y, hy⟩ : ∃ y, patB l[j] = y := ⟨_, rfl⟩
          obtain ⟨z, hz⟩ : ∃ z, x3 ++ patsB (l.take j) = z := ⟨_, rfl⟩
          have hts2 : x3 ++ patsB (l.take (j + 1)) = z ++ y := by rw [hts, ← List.append_assoc, hz, hy]
          rw [hy] at hcall hlen
          rw [hz] at hlen HO
          have HTS := Lib.hid hts2; have HCALL := Lib.hid hcall
          clear hts hts2 hcall hpc hy hz
          go_wp2_with fail
          refine HCALL.out.mono ?_
          rintro e u ⟨v2, rfl, ho2, hb2⟩
          obtain ⟨A2, q2, rfl, -, -⟩ := ownsRow_form ho2
          have hz2 := own_below' HO.out hb2
          have hb2' := HB.out.trans (hb2.mono HB.out.size)
          have HO9 := Lib.hid ho2; have HZ9 := Lib.hid hz2; have HB9 := Lib.hid hb2'
          clear ho2 hz2 hb2 hb2'
          go_wp2_with (at_builtin; refine wpList_append_any _ rfl _ _ 36 rfl Z0.heap.size 5 i0 (.int .u8 0) 1 1 Tryz.underlying36 hi0 hz0 hz1 hz3 rfl (by decide) _ _ _ rfl HZ9.out _ _ _ _ (y.map bv) rfl (Reads.of_own HO9.out) (bv_one _) (by unfold maxLen; omega) (by omega) (by have := HB9.out.size; omega) ?_; intro v' w3 hown' hgrow hx'; have hb3 := HB9.out.grown hgrow HB9.out.size (fun g hg => (HZ9.out.lt g hg).1); clear hgrow hx')
          go_roundw
          case rel => exact ⟨j + 1, by omega, by go_num, by rw [HTS.out, List.length_append, List.map_append]; exact hown', hb3⟩
          case measure => simp [RowKit.intOf]; omega
        · obtain rfl : j = l.length := by omega
          go_wp2
          go_ret
          have hown := HO.out
          rw [List.take_of_length_le (Nat.le_refl _)] at hown
          have hfin : patB (.mk 1 (a', b') false 0 0 l) = x3 ++ patsB l := by rw [patB_sound, HX3.out, HX2.out, HX1.out, HY1.out, HY2.out, List.length_eq_zero_iff.1 HL0.out, patsB_nil, List.append_nil, List.append_assoc]; rfl
          exact ⟨_, rfl, by rw [hfin]; exact own_mono hown (Nat.le_of_lt hsz0), HST.out.trans (HB.out.mono (Nat.le_of_lt hsz0))⟩
    case true =>
      go_enter Tryz.func159, Tryz.ntmps159
      go_wp2_with fail
      rw [HZ0.out]
      go_wp2_with fail
      refine (refCountI_any _ Z0 hk0.1 hk0.2).mono ?_
      rintro e w1 ⟨v1, rfl, ho1, hb1⟩
      obtain ⟨x1, hx1, hxl1⟩ : ∃ x : List Nat, x = numB (Int.toNat (1)) ∧ x.length ≤ 5 := ⟨_, rfl, numB_len _⟩
      rw [← hx1] at ho1
      have HX1 := Lib.hid hx1; have HO1 := Lib.hid ho1; have HB1 := Lib.hid hb1
      clear hx1 ho1 hb1
      clear c0 c1 c2 c3 c4 c5 c6
      obtain ⟨c0, c1, c2, c3, c4, c5, c6⟩ := (HBOX.out.below HB1.out HBOX.out.lt).seven
      have hcs := fun W => refSound_any (a', b') W h32
      have HCS := Lib.hid hcs
      clear hcs
      go_wp2_with fail
      refine (HCS.out _).mono ?_
      rintro e u1 ⟨v2, rfl, ho2, hb2⟩
      obtain ⟨y1, hy, hyl1⟩ : ∃ y : List Nat, y = sndB (a', b') ∧ y.length ≤ 10 := ⟨_, rfl, sndB_len _⟩
      rw [← hy] at ho2
      obtain ⟨A2, q2, rfl, -, -⟩ := ownsRow_form ho2
      have hz2 := own_below' HO1.out hb2
      have hb2' := HB1.out.trans (hb2.mono HB1.out.size)
      have HO9 := Lib.hid ho2; have HZ9 := Lib.hid hz2; have HB9 := Lib.hid hb2'; have HY1 := Lib.hid hy
      clear ho2 hz2 hb2 hb2' hy
      clear c0 c1 c2 c3 c4 c5 c6
      obtain ⟨c0, c1, c2, c3, c4, c5, c6⟩ := (HBOX.out.below HB9.out HBOX.out.lt).seven
      go_wp2_with (first | (at_builtin; refine wpList_append_any _ rfl _ _ 36 rfl Z0.heap.size 5 i0 (.int .u8 0) 1 1 Tryz.underlying36 hi0 hz0 hz1 hz3 rfl (by decide) _ _ _ rfl HZ9.out _ _ _ _ (y1.map bv) rfl (Reads.of_own HO9.out) (bv_one _) (by unfold maxLen; omega) (by omega) (by have := HB9.out.size; (try simp); omega) ?_; intro v' w2 hown' hgrow hx'; have hb3 := HB9.out.grown hgrow HB9.out.size (fun g hg => (HZ9.out.lt g hg).1); clear hgrow hx'; clear HZ9 c0 c1 c2 c3 c4 c5 c6; obtain ⟨c0, c1, c2, c3, c4, c5, c6⟩ := (HBOX.out.below hb3 HBOX.out.lt).seven) | (at_builtin; refine wpList_append_any _ rfl _ _ 36 rfl Z0.heap.size 5 i0 (.int .u8 0) 1 1 Tryz.underlying36 hi0 hz0 hz1 hz3 rfl (by decide) _ _ _ rfl (World.ownsRow.alloc (w := w2) hown' (.cells #[bv 1] 5)) _ _ _ _ ([1].map bv) rfl (Reads.of_own (own_lit1 w2 1)) (bv_one _) (by unfold maxLen; omega) (by omega) (by have := hb3.size; (try simp); omega) ?_; intro v4 w3 hown4 hgrow hx'; have hb4 := (hb3.alloc hb3.size (.cells #[bv 1] 5)).grown hgrow (by have := hb3.size; simp; omega) (fun g hg => (hown'.lt g hg).1); clear hgrow hx'))
      obtain ⟨x2, hx, hxl2⟩ : ∃ x : List Nat, x = x1 ++ y1 ∧ x.length ≤ 15 := ⟨_, rfl, by rw [List.length_append]; omega⟩
      have hown2 : w2.ownsRow Z0.heap.size 5 1 v' x2.length (x2.map bv) := by
        rw [hx, List.length_append, List.map_append]
        exact hown'
      have HX2 := Lib.hid hx; have HO2 := Lib.hid hown2; have HB2 := Lib.hid hb3
      clear hx hown' hown2 hb3
      obtain ⟨y2, hy, hyl2⟩ : ∃ y : List Nat, y = [1] ∧ y.length ≤ 1 := ⟨_, rfl, Nat.le_refl _⟩
      have hown5 : w3.ownsRow Z0.heap.size 5 1 v4 (x2.length + y2.length) (x2.map bv ++ y2.map bv) := by
        rw [hy, HX2.out, List.length_append, List.map_append]
        exact hown4
      have HY2 := Lib.hid hy
      clear hown4 hy
      obtain ⟨x3, hx, hxl3⟩ : ∃ x : List Nat, x = x2 ++ y2 ∧ x.length ≤ 16 := ⟨_, rfl, by rw [List.length_append]; omega⟩
      have hown2 : w3.ownsRow Z0.heap.size 5 1 v4 x3.length (x3.map bv) := by
        rw [hx, List.length_append, List.map_append]
        exact hown5
      have HX3 := Lib.hid hx; have HO3 := Lib.hid hown2; have HB3 := Lib.hid hb4
      clear hx hown5 hown2 hb4
      go_wp2
      clear c0 c1 c2 c3 c4 c5 c6
      go_loopw [3, 4] (fun v i wr => ∃ j : Nat, j ≤ l.length ∧ i = .int .i64 j ∧ wr.ownsRow Z0.heap.size 5 1 v (x3 ++ patsB (l.take j)).length ((x3 ++ patsB (l.take j)).map bv) ∧ Below Z0.heap.size Z0 wr) (fun _ i _ => l.length - (RowKit.intOf i).toNat)
      case atStart => exact ⟨0, Nat.zero_le _, rfl, by rw [List.take_zero, patsB_nil, List.append_nil]; exact HO3.out, HB3.out⟩
      case round =>
        obtain ⟨j, hj, rfl, hown, hb⟩ := hrel
        obtain ⟨c0, c1, c2, c3, c4, c5, c6⟩ := (HBOX.out.below hb HBOX.out.lt).seven
        have HO := Lib.hid hown; have HB := Lib.hid hb
        clear hown hb
        by_cases hlt : j < l.length
        · have hkI : (j : Int) < (l.length : Int) := by omega
          have hlen : (x3 ++ patsB (l.take j)).length + (patB l[j]).length ≤ 30000 := by
            have := patsB_len (l.take j)
            have := patB_len l[j]
            have hsum := ptSizes_append (l.take j) (l.drop j)
            rw [List.take_append_drop, List.drop_eq_getElem_cons hlt, ptSizes_cons] at hsum
            rw [List.length_append]
            omega
          obtain ⟨ad, k1, s1, neg1, lo1, hi1, A1, n1, q1, rfl, had, hpc, d0, d1, d2, d3, d4, d5, d6⟩ := pat_cells (HR.out.below (HB.out.mono (Nat.le_of_lt (Nat.lt_of_le_of_lt hB hsz0)))) (HPS.out.below (HB.out.mono (Nat.le_of_lt (Nat.lt_of_le_of_lt hB hsz0)))) rfl hlt
          have hcall := HM.out l[j] k1 s1 neg1 lo1 hi1 A1 n1 q1 wr B (by have := ptSize_mem (List.getElem_mem hlt); omega) (by have := ptSize_mem (List.getElem_mem hlt); omega) (ptsOk_mem (List.getElem_mem hlt) HKS.out) hpc (by have := HB.out.size; omega)
          have hts : patsB (l.take (j + 1)) = patsB (l.take j) ++ patB l[j] := by rw [patsB_flat, patsB_flat, take_flat patB l j hlt]
          obtain ⟨y, hy⟩ : ∃ y, patB l[j] = y := ⟨_, rfl⟩
          obtain ⟨z, hz⟩ : ∃ z, x3 ++ patsB (l.take j) = z := ⟨_, rfl⟩
          have hts2 : x3 ++ patsB (l.take (j + 1)) = z ++ y := by rw [hts, ← List.append_assoc, hz, hy]
          rw [hy] at hcall hlen
          rw [hz] at hlen HO
          have HTS := Lib.hid hts2; have HCALL := Lib.hid hcall
          clear hts hts2 hcall hpc hy hz
          go_wp2_with fail
          refine HCALL.out.mono ?_
          rintro e u ⟨v2, rfl, ho2, hb2⟩
          obtain ⟨A2, q2, rfl, -, -⟩ := ownsRow_form ho2
          have hz2 := own_below' HO.out hb2
          have hb2' := HB.out.trans (hb2.mono HB.out.size)
          have HO9 := Lib.hid ho2; have HZ9 := Lib.hid hz2; have HB9 := Lib.hid hb2'
          clear ho2 hz2 hb2 hb2'
          go_wp2_with (at_builtin; refine wpList_append_any _ rfl _ _ 36 rfl Z0.heap.size 5 i0 (.int .u8 0) 1 1 Tryz.underlying36 hi0 hz0 hz1 hz3 rfl (by decide) _ _ _ rfl HZ9.out _ _ _ _ (y.map bv) rfl (Reads.of_own HO9.out) (bv_one _) (by unfold maxLen; omega) (by omega) (by have := HB9.out.size; omega) ?_; intro v' w3 hown' hgrow hx'; have hb3 := HB9.out.grown hgrow HB9.out.size (fun g hg => (HZ9.out.lt g hg).1); clear hgrow hx')
          go_roundw
          case rel => exact ⟨j + 1, by omega, by go_num, by rw [HTS.out, List.length_append, List.map_append]; exact hown', hb3⟩
          case measure => simp [RowKit.intOf]; omega
        · obtain rfl : j = l.length := by omega
          go_wp2
          go_ret
          have hown := HO.out
          rw [List.take_of_length_le (Nat.le_refl _)] at hown
          have hfin : patB (.mk 1 (a', b') true 0 0 l) = x3 ++ patsB l := by rw [patB_sound, HX3.out, HX2.out, HX1.out, HY1.out, HY2.out, List.length_eq_zero_iff.1 HL0.out, patsB_nil, List.append_nil, List.append_assoc]; rfl
          exact ⟨_, rfl, by rw [hfin]; exact own_mono hown (Nat.le_of_lt hsz0), HST.out.trans (HB.out.mono (Nat.le_of_lt hsz0))⟩
  · have HL0 := Lib.hid hl0
    clear hl0
    have t1 : (k' == 1) = false := by rw [beq_eq_false_iff_ne]; omega
    have t3 : (k' == 3) = false := by rw [beq_eq_false_iff_ne]; omega
    have t4 : (k' == 4) = false := by rw [beq_eq_false_iff_ne]; omega
    have t5 : (k' == 5) = false := by rw [beq_eq_false_iff_ne]; omega
    have HK := Lib.hid hk
    clear hk
    go_enter Tryz.func159, Tryz.ntmps159
    go_wp2_with fail
    rw [HZ0.out]
    go_wp2_with fail
    refine (refCountI_any _ Z0 hk0.1 hk0.2).mono ?_
    rintro e w1 ⟨v1, rfl, ho1, hb1⟩
    obtain ⟨x1, hx1, hxl1⟩ : ∃ x : List Nat, x = numB (Int.toNat (k')) ∧ x.length ≤ 5 := ⟨_, rfl, numB_len _⟩
    rw [← hx1] at ho1
    have HX1 := Lib.hid hx1; have HO1 := Lib.hid ho1; have HB1 := Lib.hid hb1
    clear hx1 ho1 hb1
    clear c0 c1 c2 c3 c4 c5 c6
    obtain ⟨c0, c1, c2, c3, c4, c5, c6⟩ := (HBOX.out.below HB1.out HBOX.out.lt).seven
    go_wp2
    clear c0 c1 c2 c3 c4 c5 c6
    go_loopw [3, 4] (fun v i wr => ∃ j : Nat, j ≤ l.length ∧ i = .int .i64 j ∧ wr.ownsRow Z0.heap.size 5 1 v (x1 ++ patsB (l.take j)).length ((x1 ++ patsB (l.take j)).map bv) ∧ Below Z0.heap.size Z0 wr) (fun _ i _ => l.length - (RowKit.intOf i).toNat)
    case atStart => exact ⟨0, Nat.zero_le _, rfl, by rw [List.take_zero, patsB_nil, List.append_nil]; exact HO1.out, HB1.out⟩
    case round =>
      obtain ⟨j, hj, rfl, hown, hb⟩ := hrel
      obtain ⟨c0, c1, c2, c3, c4, c5, c6⟩ := (HBOX.out.below hb HBOX.out.lt).seven
      have HO := Lib.hid hown; have HB := Lib.hid hb
      clear hown hb
      by_cases hlt : j < l.length
      · have hkI : (j : Int) < (l.length : Int) := by omega
        have hlen : (x1 ++ patsB (l.take j)).length + (patB l[j]).length ≤ 30000 := by
          have := patsB_len (l.take j)
          have := patB_len l[j]
          have hsum := ptSizes_append (l.take j) (l.drop j)
          rw [List.take_append_drop, List.drop_eq_getElem_cons hlt, ptSizes_cons] at hsum
          rw [List.length_append]
          omega
        obtain ⟨ad, k1, s1, neg1, lo1, hi1, A1, n1, q1, rfl, had, hpc, d0, d1, d2, d3, d4, d5, d6⟩ := pat_cells (HR.out.below (HB.out.mono (Nat.le_of_lt (Nat.lt_of_le_of_lt hB hsz0)))) (HPS.out.below (HB.out.mono (Nat.le_of_lt (Nat.lt_of_le_of_lt hB hsz0)))) rfl hlt
        have hcall := HM.out l[j] k1 s1 neg1 lo1 hi1 A1 n1 q1 wr B (by have := ptSize_mem (List.getElem_mem hlt); omega) (by have := ptSize_mem (List.getElem_mem hlt); omega) (ptsOk_mem (List.getElem_mem hlt) HKS.out) hpc (by have := HB.out.size; omega)
        have hts : patsB (l.take (j + 1)) = patsB (l.take j) ++ patB l[j] := by rw [patsB_flat, patsB_flat, take_flat patB l j hlt]
        obtain ⟨y, hy⟩ : ∃ y, patB l[j] = y := ⟨_, rfl⟩
        obtain ⟨z, hz⟩ : ∃ z, x1 ++ patsB (l.take j) = z := ⟨_, rfl⟩
        have hts2 : x1 ++ patsB (l.take (j + 1)) = z ++ y := by rw [hts, ← List.append_assoc, hz, hy]
        rw [hy] at hcall hlen
        rw [hz] at hlen HO
        have HTS := Lib.hid hts2; have HCALL := Lib.hid hcall
        clear hts hts2 hcall hpc hy hz
        go_wp2_with fail
        refine HCALL.out.mono ?_
        rintro e u ⟨v2, rfl, ho2, hb2⟩
        obtain ⟨A2, q2, rfl, -, -⟩ := ownsRow_form ho2
        have hz2 := own_below' HO.out hb2
        have hb2' := HB.out.trans (hb2.mono HB.out.size)
        have HO9 := Lib.hid ho2; have HZ9 := Lib.hid hz2; have HB9 := Lib.hid hb2'
        clear ho2 hz2 hb2 hb2'
        go_wp2_with (at_builtin; refine wpList_append_any _ rfl _ _ 36 rfl Z0.heap.size 5 i0 (.int .u8 0) 1 1 Tryz.underlying36 hi0 hz0 hz1 hz3 rfl (by decide) _ _ _ rfl HZ9.out _ _ _ _ (y.map bv) rfl (Reads.of_own HO9.out) (bv_one _) (by unfold maxLen; omega) (by omega) (by have := HB9.out.size; omega) ?_; intro v' w3 hown' hgrow hx'; have hb3 := HB9.out.grown hgrow HB9.out.size (fun g hg => (HZ9.out.lt g hg).1); clear hgrow hx')
        go_roundw
        case rel => exact ⟨j + 1, by omega, by go_num, by rw [HTS.out, List.length_append, List.map_append]; exact hown', hb3⟩
        case measure => simp [RowKit.intOf]; omega
      · obtain rfl : j = l.length := by omega
        go_wp2
        go_ret
        have hown := HO.out
        rw [List.take_of_length_le (Nat.le_refl _)] at hown
        have hfin : patB (.mk k' (a', b') neg' lo' hi' l) = x1 ++ patsB l := by rw [patB_plain HK.out, HX1.out, List.length_eq_zero_iff.1 HL0.out, patsB_nil, List.append_nil]
        exact ⟨_, rfl, by rw [hfin]; exact own_mono hown (Nat.le_of_lt hsz0), HST.out.trans (HB.out.mono (Nat.le_of_lt hsz0))⟩
  · have HK := Lib.hid hk
    rcases hk with rfl | rfl
    · have hcs := fun W => refCount_any l.length W (by omega)
      have HCS := Lib.hid hcs
      clear hcs
      go_enter Tryz.func159, Tryz.ntmps159
      go_wp2_with fail
      rw [HZ0.out]
      go_wp2_with fail
      refine (refCountI_any _ Z0 hk0.1 hk0.2).mono ?_
      rintro e w1 ⟨v1, rfl, ho1, hb1⟩
      obtain ⟨x1, hx1, hxl1⟩ : ∃ x : List Nat, x = numB (Int.toNat (3)) ∧ x.length ≤ 5 := ⟨_, rfl, numB_len _⟩
      rw [← hx1] at ho1
      have HX1 := Lib.hid hx1; have HO1 := Lib.hid ho1; have HB1 := Lib.hid hb1
      clear hx1 ho1 hb1
      clear c0 c1 c2 c3 c4 c5 c6
      obtain ⟨c0, c1, c2, c3, c4, c5, c6⟩ := (HBOX.out.below HB1.out HBOX.out.lt).seven
      go_wp2_with fail
      refine (HCS.out _).mono ?_
      rintro e u1 ⟨v2, rfl, ho2, hb2⟩
      obtain ⟨y1, hy, hyl1⟩ : ∃ y : List Nat, y = numB l.length ∧ y.length ≤ 5 := ⟨_, rfl, numB_len _⟩
      rw [← hy] at ho2
      obtain ⟨A2, q2, rfl, -, -⟩ := ownsRow_form ho2
      have hz2 := own_below' HO1.out hb2
      have hb2' := HB1.out.trans (hb2.mono HB1.out.size)
      have HO9 := Lib.hid ho2; have HZ9 := Lib.hid hz2; have HB9 := Lib.hid hb2'; have HY1 := Lib.hid hy
      clear ho2 hz2 hb2 hb2' hy
      clear c0 c1 c2 c3 c4 c5 c6
      obtain ⟨c0, c1, c2, c3, c4, c5, c6⟩ := (HBOX.out.below HB9.out HBOX.out.lt).seven
      go_wp2_with (at_builtin; refine wpList_append_any _ rfl _ _ 36 rfl Z0.heap.size 5 i0 (.int .u8 0) 1 1 Tryz.underlying36 hi0 hz0 hz1 hz3 rfl (by decide) _ _ _ rfl HZ9.out _ _ _ _ (y1.map bv) rfl (Reads.of_own HO9.out) (bv_one _) (by unfold maxLen; omega) (by omega) (by have := HB9.out.size; (try simp); omega) ?_; intro v' w2 hown' hgrow hx'; have hb3 := HB9.out.grown hgrow HB9.out.size (fun g hg => (HZ9.out.lt g hg).1); clear hgrow hx'; clear HZ9 c0 c1 c2 c3 c4 c5 c6; obtain ⟨c0, c1, c2, c3, c4, c5, c6⟩ := (HBOX.out.below hb3 HBOX.out.lt).seven)
      obtain ⟨x2, hx, hxl2⟩ : ∃ x : List Nat, x = x1 ++ y1 ∧ x.length ≤ 10 := ⟨_, rfl, by rw [List.length_append]; omega⟩
      have hown2 : w2.ownsRow Z0.heap.size 5 1 v' x2.length (x2.map bv) := by
        rw [hx, List.length_append, List.map_append]
        exact hown'
      have HX2 := Lib.hid hx; have HO2 := Lib.hid hown2; have HB2 := Lib.hid hb3
      clear hx hown' hown2 hb3
      go_wp2
      clear c0 c1 c2 c3 c4 c5 c6
      go_loopw [3, 4] (fun v i wr => ∃ j : Nat, j ≤ l.length ∧ i = .int .i64 j ∧ wr.ownsRow Z0.heap.size 5 1 v (x2 ++ patsB (l.take j)).length ((x2 ++ patsB (l.take j)).map bv) ∧ Below Z0.heap.size Z0 wr) (fun _ i _ => l.length - (RowKit.intOf i).toNat)
      case atStart => exact ⟨0, Nat.zero_le _, rfl, by rw [List.take_zero, patsB_nil, List.append_nil]; exact HO2.out, HB2.out⟩
      case round =>
        obtain ⟨j, hj, rfl, hown, hb⟩ := hrel
        obtain ⟨c0, c1, c2, c3, c4, c5, c6⟩ := (HBOX.out.below hb HBOX.out.lt).seven
        have HO := Lib.hid hown; have HB := Lib.hid hb
        clear hown hb
        by_cases hlt : j < l.length
        · have hkI : (j : Int) < (l.length : Int) := by omega
          have hlen : (x2 ++ patsB (l.take j)).length + (patB l[j]).length ≤ 30000 := by
            have := patsB_len (l.take j)
            have := patB_len l[j]
            have hsum := ptSizes_append (l.take j) (l.drop j)
            rw [List.take_append_drop, List.drop_eq_getElem_cons hlt, ptSizes_cons] at hsum
            rw [List.length_append]
            omega
          obtain ⟨ad, k1, s1, neg1, lo1, hi1, A1, n1, q1, rfl, had, hpc, d0, d1, d2, d3, d4, d5, d6⟩ := pat_cells (HR.out.below (HB.out.mono (Nat.le_of_lt (Nat.lt_of_le_of_lt hB hsz0)))) (HPS.out.below (HB.out.mono (Nat.le_of_lt (Nat.lt_of_le_of_lt hB hsz0)))) rfl hlt
          have hcall := HM.out l[j] k1 s1 neg1 lo1 hi1 A1 n1 q1 wr B (by have := ptSize_mem (List.getElem_mem hlt); omega) (by have := ptSize_mem (List.getElem_mem hlt); omega) (ptsOk_mem (List.getElem_mem hlt) HKS.out) hpc (by have := HB.out.size; omega)
          have hts : patsB (l.take (j + 1)) = patsB (l.take j) ++ patB l[j] := by rw [patsB_flat, patsB_flat, take_flat patB l j hlt]
          obtain ⟨y, hy⟩ : ∃ y, patB l[j] = y := ⟨_, rfl⟩
          obtain ⟨z, hz⟩ : ∃ z, x2 ++ patsB (l.take j) = z := ⟨_, rfl⟩
          have hts2 : x2 ++ patsB (l.take (j + 1)) = z ++ y := by rw [hts, ← List.append_assoc, hz, hy]
          rw [hy] at hcall hlen
          rw [hz] at hlen HO
          have HTS := Lib.hid hts2; have HCALL := Lib.hid hcall
          clear hts hts2 hcall hpc hy hz
          go_wp2_with fail
          refine HCALL.out.mono ?_
          rintro e u ⟨v2, rfl, ho2, hb2⟩
          obtain ⟨A2, q2, rfl, -, -⟩ := ownsRow_form ho2
          have hz2 := own_below' HO.out hb2
          have hb2' := HB.out.trans (hb2.mono HB.out.size)
          have HO9 := Lib.hid ho2; have HZ9 := Lib.hid hz2; have HB9 := Lib.hid hb2'
          clear ho2 hz2 hb2 hb2'
          go_wp2_with (at_builtin; refine wpList_append_any _ rfl _ _ 36 rfl Z0.heap.size 5 i0 (.int .u8 0) 1 1 Tryz.underlying36 hi0 hz0 hz1 hz3 rfl (by decide) _ _ _ rfl HZ9.out _ _ _ _ (y.map bv) rfl (Reads.of_own HO9.out) (bv_one _) (by unfold maxLen; omega) (by omega) (by have := HB9.out.size; omega) ?_; intro v' w3 hown' hgrow hx'; have hb3 := HB9.out.grown hgrow HB9.out.size (fun g hg => (HZ9.out.lt g hg).1); clear hgrow hx')
          go_roundw
          case rel => exact ⟨j + 1, by omega, by go_num, by rw [HTS.out, List.length_append, List.map_append]; exact hown', hb3⟩
          case measure => simp [RowKit.intOf]; omega
        · obtain rfl : j = l.length := by omega
          go_wp2
          go_ret
          have hown := HO.out
          rw [List.take_of_length_le (Nat.le_refl _)] at hown
          have hfin : patB (.mk 3 (a', b') neg' lo' hi' l) = x2 ++ patsB l := by rw [patB_many (.inl rfl), HX2.out, HX1.out, HY1.out, List.append_assoc]
          exact ⟨_, rfl, by rw [hfin]; exact own_mono hown (Nat.le_of_lt hsz0), HST.out.trans (HB.out.mono (Nat.le_of_lt hsz0))⟩
    · have hcs := fun W => refCount_any l.length W (by omega)
      have HCS := Lib.hid hcs
      clear hcs
      go_enter Tryz.func159, Tryz.ntmps159
      go_wp2_with fail
      rw [HZ0.out]
      go_wp2_with fail
      refine (refCountI_any _ Z0 hk0.1 hk0.2).mono ?_
      rintro e w1 ⟨v1, rfl, ho1, hb1⟩
      obtain ⟨x1, hx1, hxl1⟩ : ∃ x : List Nat, x = numB (Int.toNat (4)) ∧ x.length ≤ 5 := ⟨_, rfl, numB_len _⟩
      rw [← hx1] at ho1
      have HX1 := Lib.hid hx1; have HO1 := Lib.hid ho1; have HB1 := Lib.hid hb1
      clear hx1 ho1 hb1
      clear c0 c1 c2 c3 c4 c5 c6
      obtain ⟨c0, c1, c2, c3, c4, c5, c6⟩ := (HBOX.out.below HB1.out HBOX.out.lt).seven
      go_wp2_with fail
      refine (HCS.out _).mono ?_
      rintro e u1 ⟨v2, rfl, ho2, hb2⟩
      obtain ⟨y1, hy, hyl1⟩ : ∃ y : List Nat, y = numB l.length ∧ y.length ≤ 5 := ⟨_, rfl, numB_len _⟩
      rw [← hy] at ho2
      obtain ⟨A2, q2, rfl, -, -⟩ := ownsRow_form ho2
      have hz2 := own_below' HO1.out hb2
      have hb2' := HB1.out.trans (hb2.mono HB1.out.size)
      have HO9 := Lib.hid ho2; have HZ9 := Lib.hid hz2; have HB9 := Lib.hid hb2'; have HY1 := Lib.hid hy
      clear ho2 hz2 hb2 hb2' hy
      clear c0 c1 c2 c3 c4 c5 c6
      obtain ⟨c0, c1, c2, c3, c4, c5, c6⟩ := (HBOX.out.below HB9.out HBOX.out.lt).seven
      go_wp2_with (at_builtin; refine wpList_append_any _ rfl _ _ 36 rfl Z0.heap.size 5 i0 (.int .u8 0) 1 1 Tryz.underlying36 hi0 hz0 hz1 hz3 rfl (by decide) _ _ _ rfl HZ9.out _ _ _ _ (y1.map bv) rfl (Reads.of_own HO9.out) (bv_one _) (by unfold maxLen; omega) (by omega) (by have := HB9.out.size; (try simp); omega) ?_; intro v' w2 hown' hgrow hx'; have hb3 := HB9.out.grown hgrow HB9.out.size (fun g hg => (HZ9.out.lt g hg).1); clear hgrow hx'; clear HZ9 c0 c1 c2 c3 c4 c5 c6; obtain ⟨c0, c1, c2, c3, c4, c5, c6⟩ := (HBOX.out.below hb3 HBOX.out.lt).seven)
      obtain ⟨x2, hx, hxl2⟩ : ∃ x : List Nat, x = x1 ++ y1 ∧ x.length ≤ 10 := ⟨_, rfl, by rw [List.length_append]; omega⟩
      have hown2 : w2.ownsRow Z0.heap.size 5 1 v' x2.length (x2.map bv) := by
        rw [hx, List.length_append, List.map_append]
        exact hown'
      have HX2 := Lib.hid hx; have HO2 := Lib.hid hown2; have HB2 := Lib.hid hb3
      clear hx hown' hown2 hb3
      go_wp2
      clear c0 c1 c2 c3 c4 c5 c6
      go_loopw [3, 4] (fun v i wr => ∃ j : Nat, j ≤ l.length ∧ i = .int .i64 j ∧ wr.ownsRow Z0.heap.size 5 1 v (x2 ++ patsB (l.take j)).length ((x2 ++ patsB (l.take j)).map bv) ∧ Below Z0.heap.size Z0 wr) (fun _ i _ => l.length - (RowKit.intOf i).toNat)
      case atStart => exact ⟨0, Nat.zero_le _, rfl, by rw [List.take_zero, patsB_nil, List.append_nil]; exact HO2.out, HB2.out⟩
      case round =>
        obtain ⟨j, hj, rfl, hown, hb⟩ := hrel
        obtain ⟨c0, c1, c2, c3, c4, c5, c6⟩ := (HBOX.out.below hb HBOX.out.lt).seven
        have HO := Lib.hid hown; have HB := Lib.hid hb
        clear hown hb
        by_cases hlt : j < l.length
        · have hkI : (j : Int) < (l.length : Int) := by omega
          have hlen : (x2 ++ patsB (l.take j)).length + (patB l[j]).length ≤ 30000 := by
            have := patsB_len (l.take j)
            have := patB_len l[j]
            have hsum := ptSizes_append (l.take j) (l.drop j)
            rw [List.take_append_drop, List.drop_eq_getElem_cons hlt, ptSizes_cons] at hsum
            rw [List.length_append]
            omega
          obtain ⟨ad, k1, s1, neg1, lo1, hi1, A1, n1, q1, rfl, had, hpc, d0, d1, d2, d3, d4, d5, d6⟩ := pat_cells (HR.out.below (HB.out.mono (Nat.le_of_lt (Nat.lt_of_le_of_lt hB hsz0)))) (HPS.out.below (HB.out.mono (Nat.le_of_lt (Nat.lt_of_le_of_lt hB hsz0)))) rfl hlt
          have hcall := HM.out l[j] k1 s1 neg1 lo1 hi1 A1 n1 q1 wr B (by have := ptSize_mem (List.getElem_mem hlt); omega) (by have := ptSize_mem (List.getElem_mem hlt); omega) (ptsOk_mem (List.getElem_mem hlt) HKS.out) hpc (by have := HB.out.size; omega)
          have hts : patsB (l.take (j + 1)) = patsB (l.take j) ++ patB l[j] := by rw [patsB_flat, patsB_flat, take_flat patB l j hlt]
          obtain ⟨y, hy⟩ : ∃ y, patB l[j] = y := ⟨_, rfl⟩
          obtain ⟨z, hz⟩ : ∃ z, x2 ++ patsB (l.take j) = z := ⟨_, rfl⟩
          have hts2 : x2 ++ patsB (l.take (j + 1)) = z ++ y := by rw [hts, ← List.append_assoc, hz, hy]
          rw [hy] at hcall hlen
          rw [hz] at hlen HO
          have HTS := Lib.hid hts2; have HCALL := Lib.hid hcall
          clear hts hts2 hcall hpc hy hz
          go_wp2_with fail
          refine HCALL.out.mono ?_
          rintro e u ⟨v2, rfl, ho2, hb2⟩
          obtain ⟨A2, q2, rfl, -, -⟩ := ownsRow_form ho2
          have hz2 := own_below' HO.out hb2
          have hb2' := HB.out.trans (hb2.mono HB.out.size)
          have HO9 := Lib.hid ho2; have HZ9 := Lib.hid hz2; have HB9 := Lib.hid hb2'
          clear ho2 hz2 hb2 hb2'
          go_wp2_with (at_builtin; refine wpList_append_any _ rfl _ _ 36 rfl Z0.heap.size 5 i0 (.int .u8 0) 1 1 Tryz.underlying36 hi0 hz0 hz1 hz3 rfl (by decide) _ _ _ rfl HZ9.out _ _ _ _ (y.map bv) rfl (Reads.of_own HO9.out) (bv_one _) (by unfold maxLen; omega) (by omega) (by have := HB9.out.size; omega) ?_; intro v' w3 hown' hgrow hx'; have hb3 := HB9.out.grown hgrow HB9.out.size (fun g hg => (HZ9.out.lt g hg).1); clear hgrow hx')
          go_roundw
          case rel => exact ⟨j + 1, by omega, by go_num, by rw [HTS.out, List.length_append, List.map_append]; exact hown', hb3⟩
          case measure => simp [RowKit.intOf]; omega
        · obtain rfl : j = l.length := by omega
          go_wp2
          go_ret
          have hown := HO.out
          rw [List.take_of_length_le (Nat.le_refl _)] at hown
          have hfin : patB (.mk 4 (a', b') neg' lo' hi' l) = x2 ++ patsB l := by rw [patB_many (.inr rfl), HX2.out, HX1.out, HY1.out, List.append_assoc]
          exact ⟨_, rfl, by rw [hfin]; exact own_mono hown (Nat.le_of_lt hsz0), HST.out.trans (HB.out.mono (Nat.le_of_lt hsz0))⟩
  · have hcs := fun W => refCountI_any lo' W hlo (by omega)
    have hct := fun W => refCountI_any (hi' + 1) W (by omega) (by omega)
    have HCS := Lib.hid hcs; have HCT := Lib.hid hct
    have HL0 := Lib.hid hl0
    clear hcs hct hl0
    go_enter Tryz.func159, Tryz.ntmps159
    go_wp2_with fail
    rw [HZ0.out]
    go_wp2_with fail
    refine (refCountI_any _ Z0 hk0.1 hk0.2).mono ?_
    rintro e w1 ⟨v1, rfl, ho1, hb1⟩
    obtain ⟨x1, hx1, hxl1⟩ : ∃ x : List Nat, x = numB (Int.toNat (5)) ∧ x.length ≤ 5 := ⟨_, rfl, numB_len _⟩
    rw [← hx1] at ho1
    have HX1 := Lib.hid hx1; have HO1 := Lib.hid ho1; have HB1 := Lib.hid hb1
    clear hx1 ho1 hb1
    clear c0 c1 c2 c3 c4 c5 c6
    obtain ⟨c0, c1, c2, c3, c4, c5, c6⟩ := (HBOX.out.below HB1.out HBOX.out.lt).seven
    go_wp2_with fail
    refine (HCS.out _).mono ?_
    rintro e u1 ⟨v2, rfl, ho2, hb2⟩
    obtain ⟨y1, hy, hyl1⟩ : ∃ y : List Nat, y = numB lo'.toNat ∧ y.length ≤ 5 := ⟨_, rfl, numB_len _⟩
    rw [← hy] at ho2
    obtain ⟨A2, q2, rfl, -, -⟩ := ownsRow_form ho2
    have hz2 := own_below' HO1.out hb2
    have hb2' := HB1.out.trans (hb2.mono HB1.out.size)
    have HO9 := Lib.hid ho2; have HZ9 := Lib.hid hz2; have HB9 := Lib.hid hb2'; have HY1 := Lib.hid hy
    clear ho2 hz2 hb2 hb2' hy
    clear c0 c1 c2 c3 c4 c5 c6
    obtain ⟨c0, c1, c2, c3, c4, c5, c6⟩ := (HBOX.out.below HB9.out HBOX.out.lt).seven
    go_wp2_with (at_builtin; refine wpList_append_any _ rfl _ _ 36 rfl Z0.heap.size 5 i0 (.int .u8 0) 1 1 Tryz.underlying36 hi0 hz0 hz1 hz3 rfl (by decide) _ _ _ rfl HZ9.out _ _ _ _ (y1.map bv) rfl (Reads.of_own HO9.out) (bv_one _) (by unfold maxLen; omega) (by omega) (by have := HB9.out.size; (try simp); omega) ?_; intro v' w2 hown' hgrow hx'; have hb3 := HB9.out.grown hgrow HB9.out.size (fun g hg => (HZ9.out.lt g hg).1); clear hgrow hx'; clear HZ9 c0 c1 c2 c3 c4 c5 c6; obtain ⟨c0, c1, c2, c3, c4, c5, c6⟩ := (HBOX.out.below hb3 HBOX.out.lt).seven)
    obtain ⟨x2, hx, hxl2⟩ : ∃ x : List Nat, x = x1 ++ y1 ∧ x.length ≤ 10 := ⟨_, rfl, by rw [List.length_append]; omega⟩
    have hown2 : w2.ownsRow Z0.heap.size 5 1 v' x2.length (x2.map bv) := by
      rw [hx, List.length_append, List.map_append]
      exact hown'
    have HX2 := Lib.hid hx; have HO2 := Lib.hid hown2; have HB2 := Lib.hid hb3
    clear hx hown' hown2 hb3
    go_wp2_with fail
    refine (HCT.out _).mono ?_
    rintro e u2 ⟨v2, rfl, ho2, hb2⟩
    obtain ⟨y2, hy, hyl2⟩ : ∃ y : List Nat, y = numB (hi' + 1).toNat ∧ y.length ≤ 5 := ⟨_, rfl, numB_len _⟩
    rw [← hy] at ho2
    obtain ⟨A2, q2, rfl, -, -⟩ := ownsRow_form ho2
    have hz2 := own_below' HO2.out hb2
    have hb2' := HB2.out.trans (hb2.mono HB2.out.size)
    have HO9 := Lib.hid ho2; have HZ9 := Lib.hid hz2; have HB9 := Lib.hid hb2'; have HY2 := Lib.hid hy
    clear ho2 hz2 hb2 hb2' hy
    clear c0 c1 c2 c3 c4 c5 c6
    obtain ⟨c0, c1, c2, c3, c4, c5, c6⟩ := (HBOX.out.below HB9.out HBOX.out.lt).seven
    go_wp2_with (at_builtin; refine wpList_append_any _ rfl _ _ 36 rfl Z0.heap.size 5 i0 (.int .u8 0) 1 1 Tryz.underlying36 hi0 hz0 hz1 hz3 rfl (by decide) _ _ _ rfl HZ9.out _ _ _ _ (y2.map bv) rfl (Reads.of_own HO9.out) (bv_one _) (by unfold maxLen; omega) (by omega) (by have := HB9.out.size; (try simp); omega) ?_; intro v' w3 hown' hgrow hx'; have hb3 := HB9.out.grown hgrow HB9.out.size (fun g hg => (HZ9.out.lt g hg).1); clear hgrow hx'; clear HZ9 c0 c1 c2 c3 c4 c5 c6; obtain ⟨c0, c1, c2, c3, c4, c5, c6⟩ := (HBOX.out.below hb3 HBOX.out.lt).seven)
    obtain ⟨x3, hx, hxl3⟩ : ∃ x : List Nat, x = x2 ++ y2 ∧ x.length ≤ 15 := ⟨_, rfl, by rw [List.length_append]; omega⟩
    have hown2 : w3.ownsRow Z0.heap.size 5 1 v' x3.length (x3.map bv) := by
      rw [hx, List.length_append, List.map_append]
      exact hown'
    have HX3 := Lib.hid hx; have HO3 := Lib.hid hown2; have HB3 := Lib.hid hb3
    clear hx hown' hown2 hb3
    go_wp2
    clear c0 c1 c2 c3 c4 c5 c6
    go_loopw [3, 4] (fun v i wr => ∃ j : Nat, j ≤ l.length ∧ i = .int .i64 j ∧ wr.ownsRow Z0.heap.size 5 1 v (x3 ++ patsB (l.take j)).length ((x3 ++ patsB (l.take j)).map bv) ∧ Below Z0.heap.size Z0 wr) (fun _ i _ => l.length - (RowKit.intOf i).toNat)
    case atStart => exact ⟨0, Nat.zero_le _, rfl, by rw [List.take_zero, patsB_nil, List.append_nil]; exact HO3.out, HB3.out⟩
    case round =>
      obtain ⟨j, hj, rfl, hown, hb⟩ := hrel
      obtain ⟨c0, c1, c2, c3, c4, c5, c6⟩ := (HBOX.out.below hb HBOX.out.lt).seven
      have HO := Lib.hid hown; have HB := Lib.hid hb
      clear hown hb
      by_cases hlt : j < l.length
      · have hkI : (j : Int) < (l.length : Int) := by omega
        have hlen : (x3 ++ patsB (l.take j)).length + (patB l[j]).length ≤ 30000 := by
          have := patsB_len (l.take j)
          have := patB_len l[j]
          have hsum := ptSizes_append (l.take j) (l.drop j)
          rw [List.take_append_drop, List.drop_eq_getElem_cons hlt, ptSizes_cons] at hsum
          rw [List.length_append]
          omega
        obtain ⟨ad, k1, s1, neg1, lo1, hi1, A1, n1, q1, rfl, had, hpc, d0, d1, d2, d3, d4, d5, d6⟩ := pat_cells (HR.out.below (HB.out.mono (Nat.le_of_lt (Nat.lt_of_le_of_lt hB hsz0)))) (HPS.out.below (HB.out.mono (Nat.le_of_lt (Nat.lt_of_le_of_lt hB hsz0)))) rfl hlt
        have hcall := HM.out l[j] k1 s1 neg1 lo1 hi1 A1 n1 q1 wr B (by have := ptSize_mem (List.getElem_mem hlt); omega) (by have := ptSize_mem (List.getElem_mem hlt); omega) (ptsOk_mem (List.getElem_mem hlt) HKS.out) hpc (by have := HB.out.size; omega)
        have hts : patsB (l.take (j + 1)) = patsB (l.take j) ++ patB l[j] := by rw [patsB_flat, patsB_flat, take_flat patB l j hlt]
        obtain ⟨y, hy⟩ : ∃ y, patB l[j] = y := ⟨_, rfl⟩
        obtain ⟨z, hz⟩ : ∃ z, x3 ++ patsB (l.take j) = z := ⟨_, rfl⟩
        have hts2 : x3 ++ patsB (l.take (j + 1)) = z ++ y := by rw [hts, ← List.append_assoc, hz, hy]
        rw [hy] at hcall hlen
        rw [hz] at hlen HO
        have HTS := Lib.hid hts2; have HCALL := Lib.hid hcall
        clear hts hts2 hcall hpc hy hz
        go_wp2_with fail
        refine HCALL.out.mono ?_
        rintro e u ⟨v2, rfl, ho2, hb2⟩
        obtain ⟨A2, q2, rfl, -, -⟩ := ownsRow_form ho2
        have hz2 := own_below' HO.out hb2
        have hb2' := HB.out.trans (hb2.mono HB.out.size)
        have HO9 := Lib.hid ho2; have HZ9 := Lib.hid hz2; have HB9 := Lib.hid hb2'
        clear ho2 hz2 hb2 hb2'
        go_wp2_with (at_builtin; refine wpList_append_any _ rfl _ _ 36 rfl Z0.heap.size 5 i0 (.int .u8 0) 1 1 Tryz.underlying36 hi0 hz0 hz1 hz3 rfl (by decide) _ _ _ rfl HZ9.out _ _ _ _ (y.map bv) rfl (Reads.of_own HO9.out) (bv_one _) (by unfold maxLen; omega) (by omega) (by have := HB9.out.size; omega) ?_; intro v' w3 hown' hgrow hx'; have hb3 := HB9.out.grown hgrow HB9.out.size (fun g hg => (HZ9.out.lt g hg).1); clear hgrow hx')
        go_roundw
        case rel => exact ⟨j + 1, by omega, by go_num, by rw [HTS.out, List.length_append, List.map_append]; exact hown', hb3⟩
        case measure => simp [RowKit.intOf]; omega
      · obtain rfl : j = l.length := by omega
        go_wp2
        go_ret
        have hown := HO.out
        rw [List.take_of_length_le (Nat.le_refl _)] at hown
        have hfin : patB (.mk 5 (a', b') neg' lo' hi' l) = x3 ++ patsB l := by rw [patB_rep, HX3.out, HX2.out, HX1.out, HY1.out, HY2.out, List.append_assoc, List.append_assoc]; rfl
        exact ⟨_, rfl, by rw [hfin]; exact own_mono hown (Nat.le_of_lt hsz0), HST.out.trans (HB.out.mono (Nat.le_of_lt hsz0))⟩
theorem refPat_any : ∀ m, RWritesPat m
  | 0 => fun p _ _ _ _ _ _ _ _ _ _ h => absurd (ptSize_pos p) (by omega)
  | m + 1 => refPat_step m (refPat_any m)
end Go.Proofs.YtmepaeahchiglaaGreatDoor
