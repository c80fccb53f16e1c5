/-
  NotationParses: the walk. Conditions: a case that can be read.
-/
import Derived.Test.YtohggdfplmlinaaGreatDoorZaas
namespace Go.Proofs.YtohggdfplmlinaaGreatDoor
open Go.RowKit Go.Lib

set_option linter.unusedSimpArgs false in
set_option maxRecDepth 20000 in
set_option maxHeartbeats 4000000 in
theorem parses_law {w : World} {A1 A2 A3 : Option Addr} {n1 c1 n2 c2 n3 c3 : Nat} {fs : List ByteArray} {xs : List Nam} {ms : List Mk} (h : CaseM w w.heap.size A1 A2 A3 n1 c1 n2 c2 n3 c3 fs xs ms)
    (s : ByteArray) (hs : s.size ≤ maxLen) :
    Calls Tryz.prog 4 #[caseV A1 A2 A3 n1 c1 n2 c2 n3 c3, .string s] w fun e w' => e = .returned (.bool true) ∧ Below w.heap.size w w' := by
  have HS := Lib.hid hs
  clear hs
  obtain ⟨W1, hW1⟩ : ∃ W1, w.alloc (.cells #[.slice A1 n1 c1, .slice A2 n2 c2, .slice A3 n3 c3] 26) = W1 := ⟨_, rfl⟩
  have hz : W1.heap.size = w.heap.size + 1 := by rw [← hW1]; simp
  have hb1 : Below w.heap.size w W1 := by rw [← hW1]; exact (Below.refl _ _).alloc (Nat.le_refl _) _
  have kb : Blk W1 w.heap.size 26 #[.slice A1 n1 c1, .slice A2 n2 c2, .slice A3 n3 c3] := by rw [← hW1]; exact Blk.new w _ _
  have hsm := small_c A1 A2 A3 n1 c1 n2 c2 n3 c3 W1
  have k0 := kb.cell 0; have k1 := kb.cell 1; have k2 := kb.cell 2
  simp only [List.getElem?_toArray, List.getElem?_cons_zero, List.getElem?_cons_succ] at k0 k1 k2
  have hwk := works_any
  have HSM := Lib.hid hsm; have KB := Lib.hid kb; have HB1 := Lib.hid hb1; have HWK := Lib.hid hwk; have HC := Lib.hid h
  clear hsm kb hb1 hwk h
  have WEND : ∀ W, Below w.heap.size w W → Calls Tryz.prog 7 #[] W fun e w' => e = .returned (.bool true) ∧ Below w.heap.size w w' := fun W hW => (HWK.out W).mono (by
    rintro e w' ⟨rfl, hb⟩
    exact ⟨rfl, hW.trans (hb.mono hW.size)⟩)
  have HWE := Lib.hid WEND
  clear WEND
  go_enter Tryz.func4, Tryz.ntmps4
  go_wp2_with (rw [hW1])
  refine HSM.out.mono ?_
  rintro e w2 ⟨rfl, hb2⟩
  have hz2 := hb2.size
  have HB2 := Lib.hid (HB1.out.trans (hb2.mono HB1.out.size)); have KB2 := Lib.hid (KB.out.below hb2 (by omega))
  clear hb2 k0 k1 k2 hW1 HSM KB
  cases hsm : smallK n1 n2 n3 with
  | false =>
    clear hsm
    go_wp2_with fail
    refine (HWE.out _ HB2.out).mono ?_
    rintro e w9 ⟨rfl, hb9⟩
    have HB9 := Lib.hid hb9
    clear hb9
    go_wp2
    go_ret
    exact ⟨rfl, HB9.out⟩
  | true =>
    clear hsm
    by_cases hg : 300 < s.size
    · have hgI : (300 : Int) < (s.size : Int) := by omega
      go_wp2_with fail
      refine (HWE.out _ HB2.out).mono ?_
      rintro e w9 ⟨rfl, hb9⟩
      have HB9 := Lib.hid hb9
      clear hb9
      go_wp2
      go_ret
      exact ⟨rfl, HB9.out⟩
    · have hgI : ¬ (300 : Int) < (s.size : Int) := by omega
      have k0 := KB2.out.cell 0; have k1 := KB2.out.cell 1; have k2 := KB2.out.cell 2
      simp only [List.getElem?_toArray, List.getElem?_cons_zero, List.getElem?_cons_succ] at k0 k1 k2
      have hm := made_c (HC.out.below HB2.out)
      have HM := Lib.hid hm
      clear hm
      go_wp2_with fail
      refine HM.out.mono ?_
      rintro e w3 hpost
      obtain ⟨p, x, rfl, hb3, hp⟩ := made2 hpost
      have hz3 := hb3.size
      have HB3 := Lib.hid (HB2.out.trans (hb3.mono HB2.out.size)); have KB3 := Lib.hid (KB2.out.below hb3 (by omega)); have HP := Lib.hid hp
      clear hb3 k0 k1 k2 HM KB2 hp hpost
      have k0 := KB3.out.cell 0; have k1 := KB3.out.cell 1; have k2 := KB3.out.cell 2
      simp only [List.getElem?_toArray, List.getElem?_cons_zero, List.getElem?_cons_succ] at k0 k1 k2
      have hm := rmade_c (HC.out.below HB3.out)
      have HM := Lib.hid hm
      clear hm
      go_wp2_with fail
      refine HM.out.mono ?_
      rintro e w4 hpost
      obtain ⟨r, y, rfl, hb4, hr⟩ := rmade2 hpost
      have hz4 := hb4.size
      have HB4 := Lib.hid (HB3.out.trans (hb4.mono HB3.out.size)); have HP4 := Lib.hid (HP.out.below hb4); have HR4 := Lib.hid hr
      clear hb4 k0 k1 k2 HM KB3 hr hpost HP
      generalize decide (caseE fs ms = 0) = b at HP4 HR4
      generalize addsL fs.length [] xs = L at HP4 HR4
      obtain ⟨R, hR⟩ : ∃ R, readB b L ms (bs s) = R := ⟨_, rfl⟩
      have hc := prog_parse HP4.out s HS.out
      rw [hR] at hc
      have HRR := Lib.hid hR; have HCC := Lib.hid hc
      clear hR hc
      go_wp2_with fail
      refine HCC.out.mono ?_
      rintro e w5 ⟨v5, rfl, ho5, hb5⟩
      obtain ⟨A5, c5, rfl, hl5, hm5⟩ := ownsRow_form ho5
      have hz5 := hb5.size
      have hc := ref_parse (HR4.out.below hb5) s HS.out
      rw [HRR.out] at hc
      have HC6 := Lib.hid hc; have HB5 := Lib.hid (HB4.out.trans (hb5.mono HB4.out.size)); have HP5 := Lib.hid (HP4.out.below hb5); have HR5 := Lib.hid (HR4.out.below hb5); have HO5 := Lib.hid ho5
      clear hc hb5 ho5 HCC HP4 HR4
      go_wp2_with fail
      refine HC6.out.mono ?_
      rintro e w6 ⟨v6, rfl, ho6, hb6⟩
      obtain ⟨A6, c6, rfl, hl6, hm6⟩ := ownsRow_form ho6
      have hz6 := hb6.size
      have hc := prog_split (HP5.out.below hb6) s HS.out
      rw [HRR.out] at hc
      have HC7 := Lib.hid hc; have HB6 := Lib.hid (HB5.out.trans (hb6.mono HB5.out.size)); have HR6 := Lib.hid (HR5.out.below hb6); have HO56 := Lib.hid (own_below HO5.out hb6); have HO6 := Lib.hid ho6
      clear hc hb6 ho6 HC6 HP5 HR5 HO5
      go_wp2_with fail
      refine HC7.out.mono ?_
      rintro e w7 ⟨v7, rfl, ho7, hb7⟩
      obtain ⟨A7, c7, rfl, hl7, hm7⟩ := ownsRow_form ho7
      have hz7 := hb7.size
      have hc := ref_split (HR6.out.below hb7) s HS.out
      rw [HRR.out] at hc
      have HC8 := Lib.hid hc; have HB7 := Lib.hid (HB6.out.trans (hb7.mono HB6.out.size)); have HO57 := Lib.hid (own_below HO56.out hb7); have HO67 := Lib.hid (own_below HO6.out hb7); have HO7 := Lib.hid ho7
      clear hc hb7 ho7 HC7 HR6 HO56 HO6
      go_wp2_with fail
      refine HC8.out.mono ?_
      rintro e w8 ⟨v8, rfl, ho8, hb8⟩
      obtain ⟨A8, c8, rfl, hl8, hm8⟩ := ownsRow_form ho8
      have hz8 := hb8.size
      have r5 := Reads.of_own (own_below HO57.out hb8)
      have r6 := Reads.of_own (own_below HO67.out hb8)
      have r7 := Reads.of_own (own_below HO7.out hb8)
      have r8 := Reads.of_own ho8
      have HB8 := Lib.hid (HB7.out.trans (hb8.mono HB7.out.size))
      have heq := refEqual_any A5 A6 R.w.length R.w.length c5 c6 w8.heap.size R.w R.w w8 r5 r6 (Nat.le_refl _) (by omega)
      rw [decide_eq_true rfl] at heq
      have HEQ := Lib.hid heq; have HR7 := Lib.hid r7; have HR8 := Lib.hid r8
      clear heq r5 r6 r7 r8 hb8 ho8 HC8 HO57 HO67 HO7
      go_wp2_with fail
      refine HEQ.out.mono ?_
      rintro e w9 ⟨rfl, -, hb9⟩
      have htx := texts_same A7 A8 R.texts.length c7 c8 w8.heap.size R.texts w9 (HR7.out.below hb9) (HR8.out.below hb9) hb9.size (by omega)
      have HTX := Lib.hid htx; have HB9 := Lib.hid (HB8.out.trans (hb9.mono HB8.out.size))
      clear htx hb9 HEQ HR7 HR8
      go_wp2_with fail
      refine HTX.out.mono ?_
      rintro e w10 ⟨rfl, hb10⟩
      have HB10 := Lib.hid (HB9.out.trans (hb10.mono HB9.out.size))
      clear hb10 HTX
      go_wp2_with fail
      refine (HWE.out _ HB10.out).mono ?_
      rintro e w11 ⟨rfl, hb11⟩
      have HB11 := Lib.hid hb11
      clear hb11
      go_wp2
      go_ret
      exact ⟨rfl, HB11.out⟩
end Go.Proofs.YtohggdfplmlinaaGreatDoor
