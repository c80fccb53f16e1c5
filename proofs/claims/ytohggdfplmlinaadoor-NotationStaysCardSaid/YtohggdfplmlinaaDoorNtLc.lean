/-
  NotationStays: the walk. Conditions: a case that can be read.
-/
import Derived.Test.YtohggdfplmlinaaDoorNtF
namespace Go.Proofs.YtohggdfplmlinaaDoor
open Go.RowKit Go.Lib

set_option linter.unusedSimpArgs false in
set_option maxRecDepth 20000 in
set_option maxHeartbeats 4000000 in
theorem stays_law {w : World} {A1 A2 A3 : Option Addr} {n1 c1 n2 c2 n3 c3 : Nat} {fs : List ByteArray} {xs : List Nam} {ms : List Mk} (h : CaseM w w.heap.size A1 A2 A3 n1 c1 n2 c2 n3 c3 fs xs ms)
    (s : ByteArray) (hs : s.size ≤ maxLen) (y : Nam) (hy : ok32 y.2) (hysz : y.1.size ≤ maxLen) :
    Calls Tryd.prog 4 #[caseV A1 A2 A3 n1 c1 n2 c2 n3 c3, .string s, namV y] w fun e w' => e = .returned (.bool true) ∧ Below w.heap.size w w' := by
  have hxl := h.r2.len_of (fun _ => rfl) (by decide)
  subst hxl
  have hlx := h.l2
  unfold maxLen at hlx
  obtain ⟨W1, hW1⟩ : ∃ W1, (w.alloc (.cells #[.slice A1 n1 c1, .slice A2 xs.length c2, .slice A3 n3 c3] 26)).alloc (.cells #[.string y.1, .int .u32 y.2.1, .int .u32 y.2.2] 41) = W1 := ⟨_, rfl⟩
  have hz : W1.heap.size = w.heap.size + 2 := by rw [← hW1]; simp
  have hb1 : Below w.heap.size w W1 := by rw [← hW1]; exact ((Below.refl _ _).alloc (Nat.le_refl _) _).alloc (by simp) _
  have kb : Blk W1 w.heap.size 26 #[.slice A1 n1 c1, .slice A2 xs.length c2, .slice A3 n3 c3] := by rw [← hW1]; exact (Blk.new w _ _).alloc _
  have ky : Blk W1 (w.heap.size + 1) 41 #[.string y.1, .int .u32 y.2.1, .int .u32 y.2.2] := by
    rw [← hW1]
    have := Blk.new (w.alloc (.cells #[.slice A1 n1 c1, .slice A2 xs.length c2, .slice A3 n3 c3] 26)) 41 #[.string y.1, .int .u32 y.2.1, .int .u32 y.2.2]
    rwa [World.size_alloc] at this
  have hC := h.below hb1
  have hI := newI_any A1 n1 c1 w.heap.size fs W1 hC.r1 hC.hB hC.l1 hC.s1
  have k0 := kb.cell 0
  simp only [List.getElem?_toArray, List.getElem?_cons_zero] at k0
  have hwk := works_any
  have HI := Lib.hid hI; have HC := Lib.hid hC; have KB := Lib.hid kb; have KY := Lib.hid ky; have HB1 := Lib.hid hb1; have HWK := Lib.hid hwk
  clear hI hC h kb ky hb1 hwk
  have WEND : ∀ W, Below w.heap.size w W → Calls Tryd.prog 11 #[] W fun e w' => e = .returned (.bool true) ∧ Below w.heap.size w w' := fun W hW => (HWK.out W).mono (by
    rintro e w' ⟨rfl, hb⟩
    exact ⟨rfl, hW.trans (hb.mono hW.size)⟩)
  have HWE := Lib.hid WEND
  clear WEND
  go_enter Tryd.func4, Tryd.ntmps4
  go_wp2_with (rw [hW1])
  refine HI.out.mono ?_
  rintro e w2 ⟨hb2, ⟨hE, gi, rfl, hi⟩ | ⟨hE, rfl⟩⟩
  · have hi' := hi.mono (T := fun b => w.heap.size + 2 ≤ b ∧ b < w2.heap.size) (fun b hb => ⟨by have := hb.1; omega, hb.2⟩)
    have hbl := KB.out.lt
    have kb2 := KB.out.below hb2 hbl
    have k0 := kb2.cell 0; have k1 := kb2.cell 1; have k2 := kb2.cell 2
    simp only [List.getElem?_toArray, List.getElem?_cons_zero, List.getElem?_cons_succ] at k0 k1 k2
    have hsm := small_c A1 A2 A3 n1 c1 xs.length c2 n3 c3 w2
    have hsz2 := hb2.size
    have HI2 := Lib.hid hi'; have HB2 := Lib.hid hb2; have HSM := Lib.hid hsm
    clear hi hi' hb2 hE kb2 hW1 hsm
    go_wp2_with fail
    refine HSM.out.mono ?_
    rintro e w3 ⟨rfl, hb3⟩
    have hi3 := HI2.out.below hb3
    have hB3 := HB2.out.trans (hb3.mono hsz2)
    have hsz3 := hb3.size
    have hi3' := hi3.mono (T := fun b => w.heap.size + 2 ≤ b ∧ b < w3.heap.size) (fun b hb => ⟨hb.1, by have := hb.2; omega⟩)
    have hB03 := HB1.out.trans (hB3.mono HB1.out.size)
    have HI3 := Lib.hid hi3'; have HB3 := Lib.hid hB3; have HB03 := Lib.hid hB03
    clear hi3 hi3' hb3 hB3 hB03 HSM HI2 HB2 k0 k1 k2
    cases hsm : smallK n1 xs.length n3 with
    | false =>
      clear hsm
      go_wp2_with fail
      refine (HWE.out _ HB03.out).mono ?_
      rintro e w4 ⟨rfl, hb4⟩
      have HB4 := Lib.hid hb4
      clear hb4
      go_wp2
      go_ret
      exact ⟨rfl, HB4.out⟩
    | true =>
      clear hsm
      by_cases hg0 : 100 < s.size
      · have hg0I : (100 : Int) < (s.size : Int) := by omega
        clear hg0
        go_wp2_with fail
        refine (HWE.out _ HB03.out).mono ?_
        rintro e w4 ⟨rfl, hb4⟩
        have HB4 := Lib.hid hb4
        clear hb4
        go_wp2
        go_ret
        exact ⟨rfl, HB4.out⟩
      · have hg0I : ¬ (100 : Int) < (s.size : Int) := by omega
        go_wp2
        go_loopw [9] (fun i wr => ∃ k : Nat, k ≤ xs.length ∧ i = .int .i64 k ∧ InvM wr (fun b => w.heap.size + 2 ≤ b ∧ b < wr.heap.size) gi fs (addsL fs.length [] (xs.take k)) ∧ Below W1.heap.size W1 wr) (fun i _ => xs.length - (RowKit.intOf i).toNat)
        case atStart => exact ⟨0, by omega, rfl, HI3.out, HB3.out⟩
        case round =>
          obtain ⟨k, hk, rfl, hi, hb⟩ := hrel
          have kb := KB.out.below hb hbl
          have k1 := kb.cell 1; have k2 := kb.cell 2
          simp only [List.getElem?_toArray, List.getElem?_cons_zero, List.getElem?_cons_succ] at k1 k2
          have hC := HC.out.below (hb.mono HC.out.hB)
          have hsz := hb.size
          by_cases hlt : k < xs.length
          · have hkI : (k : Int) < (xs.length : Int) := by omega
            obtain ⟨ad, rfl, had, e0, e1, e2⟩ := nam_cells hC.r2 hlt
            have hnx := addsL_next (n := fs.length) (L := []) hlt
            obtain ⟨h32, hsy⟩ := hC.s2 _ (List.getElem_mem hlt)
            generalize xs[k] = x at *
            have hadd := add_any (w := wr.drew) x.1 x.2 (show InvM wr.drew (fun b => w.heap.size + 2 ≤ b ∧ b < wr.heap.size) gi fs _ from hi) (fun b hb => hb.2) h32 hsy
            have HADD := Lib.hid hadd; have HB := Lib.hid hb; have HNX := Lib.hid hnx
            clear kb hC hi hb hadd hnx h32 hsy
            go_wp2
            refine region_tail 13 (by kernel_rfl) (by kernel_rfl) ?_
            simp only [List.take_succ_cons, List.take_zero, List.drop_succ_cons, List.drop_zero]
            iterate 13 still_step
            refine wpStill_nil ?_
            go_wp2_with fail
            refine HADD.out.mono ?_
            rintro e w4 ⟨rfl, hi4, hc4⟩
            have hs4 : wr.heap.size ≤ w4.heap.size := hc4.size
            have hb4 : Below W1.heap.size W1 w4 := HB.out.drew.trans (hc4.below (B := W1.heap.size) (fun i hi => by have := hi.1; omega) hsz)
            rw [← HNX.out] at hi4
            have hi4' := hi4.mono (T := fun b => w.heap.size + 2 ≤ b ∧ b < w4.heap.size) (fun b hb => by
              rcases hb with hb | hb
              · exact ⟨hb.1, by have := hb.2; omega⟩
              · exact ⟨by have : wr.heap.size ≤ b := hb.1; omega, hb.2⟩)
            have HI4 := Lib.hid hi4'; have HB4 := Lib.hid hb4
            clear hi4 hc4 hb4 hi4' HADD HB HNX e0 e1 e2 k1 k2
            go_wp2
            go_roundw
            case rel => exact ⟨k + 1, by omega, by go_num, HI4.out, HB4.out⟩
            case measure => simp [RowKit.intOf]; omega
          · obtain rfl : k = xs.length := by omega
            rw [List.take_length] at hi
            generalize addsL fs.length [] xs = L at hi
            have hnew := newN_any A3 n3 c3 w.heap.size ms hi hC.r3 hC.hB hC.l3 hC.s3
            have hB0 := HB1.out.trans (hb.mono HB1.out.size)
            have HN := Lib.hid hnew; have HB0 := Lib.hid hB0; have HIR := Lib.hid hi; have HBR := Lib.hid hb
            clear kb hC hi hb hnew hB0
            go_wp2_with fail
            refine HN.out.mono ?_
            rintro e w4 ⟨hb4, ⟨hK, g, rfl, hn⟩ | ⟨hK, rfl⟩⟩
            · have hs4 := hb4.size
              have hB4 := HB0.out.trans (hb4.mono HB0.out.size)
              have hi4 := HIR.out.below hb4
              have hy4 := (KY.out.below HBR.out KY.out.lt).below hb4 (by have := KY.out.lt; omega)
              have HPSA : Hid (∀ W, NotN W (NewB wr w4) g fs L ms 0 → Calls Tryd.prog 12 #[wptr g, .string s] W (ParsePost W (readR L ms (bs s)))) := Lib.hid (fun W hW => parse_any (w := W) s ⟨_, hW⟩ hs)
              have hR32 := readR_w32 (L := L) (ms := ms) (bs s)
              generalize readR L ms (bs s) = R at HPSA hR32
              have hp4 := HPSA.out w4 hn
              have HP4 := Lib.hid hp4; have HN4 := Lib.hid hn; have HB4 := Lib.hid hB4; have HI4 := Lib.hid hi4; have HY4 := Lib.hid hy4
              clear hp4 hn hB4 hi4 hy4 hb4 HN HB0 HIR HBR k1 k2 hK
              go_wp2_with fail
              refine HP4.out.mono ?_
              rintro e w5 ⟨v5, rfl, ho5, hb5⟩
              obtain ⟨A5, c5, rfl, -, -⟩ := ownsRow_form ho5
              have hs5 := hb5.size
              have hB5 := HB4.out.trans (hb5.mono HB4.out.size)
              have hn5 := HN4.out.below hb5
              have hi5 := HI4.out.below hb5
              have hy5 := HY4.out.below hb5 HY4.out.lt
              have e0 := hy5.cell 0; have e1 := hy5.cell 1; have e2 := hy5.cell 2
              simp only [List.getElem?_toArray, List.getElem?_cons_zero, List.getElem?_cons_succ] at e0 e1 e2
              have hadd := add_any (w := w5) y.1 y.2 hi5 (fun b hb => by have := hb.2; omega) hy hysz
              have HADD := Lib.hid hadd; have HN5 := Lib.hid hn5; have HB5 := Lib.hid hB5; have HO5 := Lib.hid ho5
              clear hadd hn5 hB5 hi5 hy5 ho5 hb5 HP4 HN4 HB4 HI4 HY4
              go_wp2_with fail
              refine HADD.out.mono ?_
              rintro e w6 ⟨rfl, -, hc6⟩
              have hs6 := hc6.size
              have hz5 : w.heap.size ≤ w5.heap.size := HB5.out.size
              have hB6 := HB5.out.trans (hc6.low (B := w.heap.size) (fun b hb => by have := hb.1; omega) hz5)
              have hn6 := HN5.out.chg hc6 (fun b hb h => by have h1 := hb.1; have h2 := h.2; omega)
              have ho6 := own_chgS HO5.out hc6 (fun b hb h => by have h1 := (HO5.out.lt b hb).1; have h2 := h.2; omega)
              have hp6 := HPSA.out w6 hn6
              have HP6 := Lib.hid hp6; have HB6 := Lib.hid hB6; have HO6 := Lib.hid ho6
              clear hp6 hB6 ho6 hn6 hc6 HADD HN5 HB5 HO5 HPSA e0 e1 e2
              go_wp2_with fail
              refine HP6.out.mono ?_
              rintro e w7 ⟨v7, rfl, ho7, hb7⟩
              obtain ⟨A7, c7, rfl, -, -⟩ := ownsRow_form ho7
              have hB7 := HB6.out.trans (hb7.mono HB6.out.size)
              have heq := refEqual_any A5 A7 R.w.length R.w.length c5 c7 w7.heap.size R.w R.w w7 (((Reads.of_own HO6.out).below hb7).more hb7.size) (Reads.of_own ho7) (Nat.le_refl _) (by unfold maxLen; omega)
              rw [decide_eq_true rfl] at heq
              have HEQ := Lib.hid heq; have HB7 := Lib.hid hB7
              clear heq hB7 ho7 hb7 HP6 HB6 HO6
              go_wp2_with fail
              refine HEQ.out.mono ?_
              rintro e w8 ⟨rfl, -, hb8⟩
              have HB8 := Lib.hid (HB7.out.trans (hb8.mono HB7.out.size))
              clear hb8 HEQ HB7
              go_wp2_with fail
              refine (HWE.out _ HB8.out).mono ?_
              rintro e w9 ⟨rfl, hb9⟩
              have HB9 := Lib.hid hb9
              clear hb9
              go_wp2
              go_ret
              exact ⟨rfl, HB9.out⟩
            · have e1 : (notK fs.length ms != 0) = true := by rw [bne_iff_ne]; exact hK
              have HB4 := Lib.hid (HB0.out.trans (hb4.mono HB0.out.size))
              clear hb4 hK
              go_wp2_with fail
              refine (HWE.out _ HB4.out).mono ?_
              rintro e w5 ⟨rfl, hb5⟩
              have HB5 := Lib.hid hb5
              clear hb5
              go_wp2
              go_ret
              exact ⟨rfl, HB5.out⟩
  · have e1 : (newE fs != 0) = true := by rw [bne_iff_ne]; exact hE
    have hB2 := HB1.out.trans (hb2.mono HB1.out.size)
    have HB2 := Lib.hid hB2
    clear hB2 hb2 hE k0
    go_wp2_with fail
    refine (HWE.out _ HB2.out).mono ?_
    rintro e w3 ⟨rfl, hb3⟩
    have HB3 := Lib.hid hb3
    clear hb3
    go_wp2
    go_ret
    exact ⟨rfl, HB3.out⟩
end Go.Proofs.YtohggdfplmlinaaDoor
