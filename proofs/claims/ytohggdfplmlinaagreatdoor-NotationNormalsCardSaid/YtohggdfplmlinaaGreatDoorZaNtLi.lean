/-
  NotationNormals: the walk. Conditions: a case that can be read.
-/
import Derived.Test.YtohggdfplmlinaaGreatDoorZaas
namespace Go.Proofs.YtohggdfplmlinaaGreatDoor
open Go.RowKit Go.Lib

set_option linter.unusedSimpArgs false in
set_option maxRecDepth 20000 in
set_option maxHeartbeats 4000000 in
theorem normals_law {w : World} {A1 A2 A3 : Option Addr} {n1 c1 n2 c2 n3 c3 : Nat} {fs : List ByteArray} {xs : List Nam} {ms : List Mk} (h : CaseM w w.heap.size A1 A2 A3 n1 c1 n2 c2 n3 c3 fs xs ms)
    (s t : ByteArray) (hs : s.size ≤ maxLen) (ht : t.size ≤ maxLen) :
    Calls Tryz.prog 5 #[caseV A1 A2 A3 n1 c1 n2 c2 n3 c3, .string s, .string t] w fun e w' => e = .returned (.bool true) ∧ Below w.heap.size w w' := by
  have HS := Lib.hid hs; have HT := Lib.hid ht
  clear hs ht
  obtain ⟨W1, hW1⟩ : ∃ W1, w.alloc (.cells #[.slice A1 n1 c1, .slice A2 n2 c2, .slice A3 n3 c3] 26) = W1 := ⟨_, rfl⟩
  have hz : W1.heap.size = w.heap.size + 1 := by rw [← hW1]; simp
  have hb1 : Below w.heap.size w W1 := by rw [← hW1]; exact (Below.refl _ _).alloc (Nat.le_refl _) _
  have kb : Blk W1 w.heap.size 26 #[.slice A1 n1 c1, .slice A2 n2 c2, .slice A3 n3 c3] := by rw [← hW1]; exact Blk.new w _ _
  have hsm := small_c A1 A2 A3 n1 c1 n2 c2 n3 c3 W1
  have k0 := kb.cell 0; have k1 := kb.cell 1; have k2 := kb.cell 2
  simp only [List.getElem?_toArray, List.getElem?_cons_zero, List.getElem?_cons_succ] at k0 k1 k2
  have hwk := works_any
  have HSM := Lib.hid hsm; have KB := Lib.hid kb; have HB1 := Lib.hid hb1; have HWK := Lib.hid hwk; have HC := Lib.hid h
  clear hsm kb hb1 hwk h
  have WEND : ∀ W, Below w.heap.size w W → Calls Tryz.prog 7 #[] W fun e w' => e = .returned (.bool true) ∧ Below w.heap.size w w' := fun W hW => (HWK.out W).mono (by
    rintro e w' ⟨rfl, hb⟩
    exact ⟨rfl, hW.trans (hb.mono hW.size)⟩)
  have HWE := Lib.hid WEND
  clear WEND
  go_enter Tryz.func5, Tryz.ntmps5
  go_wp2_with (rw [hW1])
  refine HSM.out.mono ?_
  rintro e w2 ⟨rfl, hb2⟩
  have hz2 := hb2.size
  have HB2 := Lib.hid (HB1.out.trans (hb2.mono HB1.out.size)); have KB2 := Lib.hid (KB.out.below hb2 (by omega))
  clear hb2 k0 k1 k2 hW1 HSM KB
  cases hsm : smallK n1 n2 n3 with
  | false =>
    clear hsm
    go_wp2_with fail
    refine (HWE.out _ HB2.out).mono ?_
    rintro e w9 ⟨rfl, hb9⟩
    have HB9 := Lib.hid hb9
    clear hb9
    go_wp2
    go_ret
    exact ⟨rfl, HB9.out⟩
  | true =>
    clear hsm
    by_cases hg : 12 < s.size
    · have hgI : (12 : Int) < (s.size : Int) := by omega
      go_wp2_with fail
      refine (HWE.out _ HB2.out).mono ?_
      rintro e w9 ⟨rfl, hb9⟩
      have HB9 := Lib.hid hb9
      clear hb9
      go_wp2
      go_ret
      exact ⟨rfl, HB9.out⟩
    have hgI : ¬ (12 : Int) < (s.size : Int) := by omega
    by_cases hg2 : 12 < t.size
    · have hgI2 : (12 : Int) < (t.size : Int) := by omega
      go_wp2_with fail
      refine (HWE.out _ HB2.out).mono ?_
      rintro e w9 ⟨rfl, hb9⟩
      have HB9 := Lib.hid hb9
      clear hb9
      go_wp2
      go_ret
      exact ⟨rfl, HB9.out⟩
    have hgI2 : ¬ (12 : Int) < (t.size : Int) := by omega
    have k0 := KB2.out.cell 0; have k1 := KB2.out.cell 1; have k2 := KB2.out.cell 2
    simp only [List.getElem?_toArray, List.getElem?_cons_zero, List.getElem?_cons_succ] at k0 k1 k2
    have hm := made_c (HC.out.below HB2.out)
    have HM := Lib.hid hm
    clear hm
    go_wp2_with fail
    refine HM.out.mono ?_
    rintro e w3 hpost
    obtain ⟨p, x, rfl, hb3, hp⟩ := made2 hpost
    have hz3 := hb3.size
    have HB3 := Lib.hid (HB2.out.trans (hb3.mono HB2.out.size)); have KB3 := Lib.hid (KB2.out.below hb3 (by omega)); have HP := Lib.hid hp
    clear hb3 k0 k1 k2 HM KB2 hp hpost
    have k0 := KB3.out.cell 0; have k1 := KB3.out.cell 1; have k2 := KB3.out.cell 2
    simp only [List.getElem?_toArray, List.getElem?_cons_zero, List.getElem?_cons_succ] at k0 k1 k2
    have hm := rmade_c (HC.out.below HB3.out)
    have HM := Lib.hid hm
    clear hm
    go_wp2_with fail
    refine HM.out.mono ?_
    rintro e w4 hpost
    obtain ⟨r, y, rfl, hb4, hr⟩ := rmade2 hpost
    have hz4 := hb4.size
    have HB4 := Lib.hid (HB3.out.trans (hb4.mono HB3.out.size)); have HP4 := Lib.hid (HP.out.below hb4); have HR4 := Lib.hid hr
    clear hb4 k0 k1 k2 HM KB3 hr hpost HP
    generalize decide (caseE fs ms = 0) = b at HP4 HR4
    generalize addsL fs.length [] xs = L at HP4 HR4
    have hNewS : ∀ k, NewB w2 w3 k → k < w4.heap.size ∧ w2.heap.size ≤ k ∧ k < w3.heap.size := fun k hk => ⟨by have := hk.2; omega, hk.1, hk.2⟩
    have hc := prog_normal s HP4.out (fun k hk => (hNewS k hk).1) HS.out (by omega)
    obtain ⟨R, hR⟩ : ∃ R, normalB b L ms (bs s) = R := ⟨_, rfl⟩
    rw [hR] at hc
    have HRR := Lib.hid hR; have HCC := Lib.hid hc; have HNS := Lib.hid hNewS
    clear hR hc hNewS
    go_wp2_with fail
    refine HCC.out.mono ?_
    rintro e w5 ⟨rfl, hp5, hc5⟩
    have hz5 := hc5.size
    have hlow5 := hc5.low (B := w2.heap.size) (fun k hk => (HNS.out k hk).2.1) (by omega)
    have hb5 := HB4.out.trans (hlow5.mono (by omega))
    have hr5 := HR4.out.chg hc5 (fun k hk hs => by have := (HNS.out k hs).2.2; have := hk.1; omega)
    have hc := ref_normal s hr5 HS.out
    rw [HRR.out] at hc
    have HC6 := Lib.hid hc; have HB5 := Lib.hid hb5; have HP5 := Lib.hid hp5; have HR5 := Lib.hid hr5
    clear hc hb5 hp5 hr5 HCC hlow5 hc5 HP4 HR4
    go_wp2_with fail
    refine HC6.out.mono ?_
    rintro e w6 ⟨rfl, hb6⟩
    have hz6 := hb6.size
    have hc := prog_same s t (HP5.out.below hb6) HS.out HT.out
    obtain ⟨q, hq⟩ : ∃ q, sameB b L ms (bs s) (bs t) = q := ⟨_, rfl⟩
    rw [hq] at hc
    have Hq := Lib.hid hq; have HC7 := Lib.hid hc; have HB6 := Lib.hid (HB5.out.trans (hb6.mono HB5.out.size)); have HR6 := Lib.hid (HR5.out.below hb6)
    clear hq hc hb6 HC6 HP5 HR5
    generalize asB R.1 = sr
    have e1 : (sr.toList == sr.toList) = true := beq_self_eq_true _
    have e4 : (R.2 == R.2) = true := beq_self_eq_true _
    go_wp2_with fail
    refine HC7.out.mono ?_
    rintro e w7 ⟨rfl, hb7⟩
    have hc := ref_same s t (HR6.out.below hb7) HS.out HT.out
    rw [Hq.out] at hc
    have HC8 := Lib.hid hc; have HB7 := Lib.hid (HB6.out.trans (hb7.mono HB6.out.size))
    clear hc hb7 HC7 HR6
    go_wp2_with fail
    refine HC8.out.mono ?_
    rintro e w8 ⟨rfl, hb8⟩
    have HB8 := Lib.hid (HB7.out.trans (hb8.mono HB7.out.size))
    clear hb8 HC8
    have e3 : (q == q) = true := beq_self_eq_true _
    go_wp2_with fail
    refine (HWE.out _ HB8.out).mono ?_
    rintro e w11 ⟨rfl, hb11⟩
    have HB11 := Lib.hid hb11
    clear hb11
    go_wp2
    go_ret
    exact ⟨rfl, HB11.out⟩
end Go.Proofs.YtohggdfplmlinaaGreatDoor
