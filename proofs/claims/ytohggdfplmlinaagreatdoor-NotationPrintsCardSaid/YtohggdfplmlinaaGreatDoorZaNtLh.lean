/-
  NotationPrints: the walk. Conditions: a case that can be read.
-/
import Derived.Test.YtohggdfplmlinaaGreatDoorZaas
namespace Go.Proofs.YtohggdfplmlinaaGreatDoor
open Go.RowKit Go.Lib

theorem rowS_low {w : World} {B k n : Nat} {A : Option Addr} {xs : List Value} (h : Reads w B k A n xs) (hB : B ≤ w.heap.size) : RowS w (fun b => b < B) k A n xs :=
  ⟨h.1, fun hn => by
    obtain ⟨a, e, h1, h2⟩ := h.2 hn
    exact ⟨a, e, h1, Nat.lt_of_lt_of_le h1 hB, h2⟩⟩
set_option linter.unusedSimpArgs false in
set_option maxRecDepth 20000 in
set_option maxHeartbeats 4000000 in
theorem prints_law {w : World} {A1 A2 A3 : Option Addr} {n1 c1 n2 c2 n3 c3 : Nat} {fs : List ByteArray} {xs : List Nam} {ms : List Mk} (h : CaseM w w.heap.size A1 A2 A3 n1 c1 n2 c2 n3 c3 fs xs ms)
    (A n c) (ws : List Snd) (x : Snd) (hr : Reads w w.heap.size 2 A n (ws.flatMap sndC)) (hn : n ≤ c) (hc : c ≤ maxLen) (hok : ∀ s ∈ ws, ok32 s) (hx : ok32 x) :
    Calls Tryz.prog 3 #[caseV A1 A2 A3 n1 c1 n2 c2 n3 c3, .slice A n c, sndV x] w fun e w' => e = .returned (.bool true) ∧ Below w.heap.size w w' := by
  obtain ⟨x1, x2⟩ := x
  have HRW := Lib.hid hr; have HOK := Lib.hid hok; have HX := Lib.hid hx
  clear hr hok hx
  have hcm := hc
  unfold maxLen at hc
  obtain ⟨W1, hW1⟩ : ∃ W1, (w.alloc (.cells #[.slice A1 n1 c1, .slice A2 n2 c2, .slice A3 n3 c3] 26)).alloc (.cells #[.int .u32 x1, .int .u32 x2] 30) = W1 := ⟨_, rfl⟩
  have hz : W1.heap.size = w.heap.size + 2 := by rw [← hW1]; simp
  have hb1 : Below w.heap.size w W1 := by rw [← hW1]; exact ((Below.refl _ _).alloc (Nat.le_refl _) _).alloc (by simp) _
  have kb : Blk W1 w.heap.size 26 #[.slice A1 n1 c1, .slice A2 n2 c2, .slice A3 n3 c3] := by rw [← hW1]; exact (Blk.new w _ _).alloc _
  have kx : Blk W1 (w.heap.size + 1) 30 #[.int .u32 x1, .int .u32 x2] := by
    have := Blk.new (w.alloc (.cells #[.slice A1 n1 c1, .slice A2 n2 c2, .slice A3 n3 c3] 26)) 30 #[.int .u32 x1, .int .u32 x2]
    rw [World.size_alloc] at this
    rw [← hW1]; exact this
  have KX := Lib.hid kx
  clear kx
  have hsm := small_c A1 A2 A3 n1 c1 n2 c2 n3 c3 W1
  have k0 := kb.cell 0; have k1 := kb.cell 1; have k2 := kb.cell 2
  simp only [List.getElem?_toArray, List.getElem?_cons_zero, List.getElem?_cons_succ] at k0 k1 k2
  have hwk := works_any
  have HSM := Lib.hid hsm; have KB := Lib.hid kb; have HB1 := Lib.hid hb1; have HWK := Lib.hid hwk; have HC := Lib.hid h
  clear hsm kb hb1 hwk h
  have WEND : ∀ W, Below w.heap.size w W → Calls Tryz.prog 7 #[] W fun e w' => e = .returned (.bool true) ∧ Below w.heap.size w w' := fun W hW => (HWK.out W).mono (by
    rintro e w' ⟨rfl, hb⟩
    exact ⟨rfl, hW.trans (hb.mono hW.size)⟩)
  have HWE := Lib.hid WEND
  clear WEND
  go_enter Tryz.func3, Tryz.ntmps3
  go_wp2_with (rw [hW1])
  refine HSM.out.mono ?_
  rintro e w2 ⟨rfl, hb2⟩
  have hz2 := hb2.size
  have HB2 := Lib.hid (HB1.out.trans (hb2.mono HB1.out.size)); have KB2 := Lib.hid (KB.out.below hb2 (by omega))
  have KX2 := Lib.hid (KX.out.below hb2 (by omega))
  clear hb2 k0 k1 k2 hW1 HSM KB
  cases hsm : smallK n1 n2 n3 with
  | false =>
    clear hsm
    go_wp2_with fail
    refine (HWE.out _ HB2.out).mono ?_
    rintro e w9 ⟨rfl, hb9⟩
    have HB9 := Lib.hid hb9
    clear hb9
    go_wp2
    go_ret
    exact ⟨rfl, HB9.out⟩
  | true =>
    clear hsm
    have hcase : (n ≤ 6 ∨ (32 < n ∧ n ≤ 40)) ∨ ((6 < n ∧ n ≤ 32) ∨ 40 < n) := by omega
    rcases hcase with hgood | hbad
    rotate_left
    · rcases hbad with ⟨h6, h32⟩ | h40
      · have h6I : (6 : Int) < (n : Int) := by omega
        have h32I : (n : Int) ≤ 32 := by omega
        go_wp2_with fail
        refine (HWE.out _ HB2.out).mono ?_
        rintro e w9 ⟨rfl, hb9⟩
        have HB9 := Lib.hid hb9
        clear hb9
        go_wp2
        go_ret
        exact ⟨rfl, HB9.out⟩
      · have h6I : (6 : Int) < (n : Int) := by omega
        have h32I : ¬ (n : Int) ≤ 32 := by omega
        have h40I : (40 : Int) < (n : Int) := by omega
        go_wp2_with fail
        refine (HWE.out _ HB2.out).mono ?_
        rintro e w9 ⟨rfl, hb9⟩
        have HB9 := Lib.hid hb9
        clear hb9
        go_wp2
        go_ret
        exact ⟨rfl, HB9.out⟩
    rcases hgood with h6 | ⟨h32, h40⟩
    · have h6I : ¬ (6 : Int) < (n : Int) := by omega
      have h40I : ¬ (40 : Int) < (n : Int) := by omega
      have k0 := KB2.out.cell 0; have k1 := KB2.out.cell 1; have k2 := KB2.out.cell 2
      simp only [List.getElem?_toArray, List.getElem?_cons_zero, List.getElem?_cons_succ] at k0 k1 k2
      have hm := made_c (HC.out.below HB2.out)
      have HM := Lib.hid hm
      clear hm
      go_wp2_with fail
      refine HM.out.mono ?_
      rintro e w3 hpost
      obtain ⟨p, x, rfl, hb3, hp⟩ := made2 hpost
      have hz3 := hb3.size
      have KX3 := Lib.hid (KX2.out.below hb3 (by omega)); have HB3 := Lib.hid (HB2.out.trans (hb3.mono HB2.out.size)); have KB3 := Lib.hid (KB2.out.below hb3 (by omega)); have HP := Lib.hid hp
      clear hb3 k0 k1 k2 HM KB2 hp hpost
      have k0 := KB3.out.cell 0; have k1 := KB3.out.cell 1; have k2 := KB3.out.cell 2
      simp only [List.getElem?_toArray, List.getElem?_cons_zero, List.getElem?_cons_succ] at k0 k1 k2
      have hm := rmade_c (HC.out.below HB3.out)
      have HM := Lib.hid hm
      clear hm
      go_wp2_with fail
      refine HM.out.mono ?_
      rintro e w4 hpost
      obtain ⟨r, y, rfl, hb4, hr⟩ := rmade2 hpost
      have hz4 := hb4.size
      have KX4 := Lib.hid (KX3.out.below hb4 (by omega)); have HB4 := Lib.hid (HB3.out.trans (hb4.mono HB3.out.size)); have HP4 := Lib.hid (HP.out.below hb4); have HR4 := Lib.hid hr
      clear hb4 k0 k1 k2 HM KB3 hr hpost HP
      generalize decide (caseE fs ms = 0) = b at HP4 HR4
      generalize addsL fs.length [] xs = L at HP4 HR4
      have hNewS : ∀ k, NewB w2 w3 k → k < w4.heap.size ∧ w2.heap.size ≤ k ∧ k < w3.heap.size := fun k hk => ⟨by have := hk.2; omega, hk.1, hk.2⟩
      have hc := prog_print (T := fun k => k < w.heap.size) A n c ws HP4.out (fun k hk => (hNewS k hk).1) (rowS_low (HRW.out.below HB4.out) HB4.out.size) (fun k hk hs => by have := (hNewS k hs).2.1; omega) hn hcm HOK.out (by omega)
      obtain ⟨R, hR⟩ : ∃ R, printB b L ms ws = R := ⟨_, rfl⟩
      rw [hR] at hc
      have HRR := Lib.hid hR; have HCC := Lib.hid hc; have HNS := Lib.hid hNewS
      clear hR hc hNewS
      go_wp2_with fail
      refine HCC.out.mono ?_
      rintro e w5 ⟨rfl, hp5, hc5⟩
      have hz5 := hc5.size
      have hlow5 := hc5.low (B := w2.heap.size) (fun k hk => (HNS.out k hk).2.1) (by omega)
      have hb5 := HB4.out.trans (hlow5.mono (by omega))
      have hr5 := HR4.out.chg hc5 (fun k hk hs => by have := (HNS.out k hs).2.2; have := hk.1; omega)
      have hc := ref_print A n c ws hr5 ((HRW.out.below hb5).more hb5.size) hn hcm HOK.out
      rw [HRR.out] at hc
      have HC6 := Lib.hid hc; have HB5 := Lib.hid hb5; have HP5 := Lib.hid hp5; have HR5 := Lib.hid hr5; have KX5 := Lib.hid (KX4.out.below hlow5 (by omega))
      clear hc hb5 hp5 hr5 HCC hlow5 hc5 HP4 HR4
      go_wp2_with fail
      refine HC6.out.mono ?_
      rintro e w6 ⟨rfl, hb6⟩
      have hz6 := hb6.size
      have hk6 := KX5.out.below hb6 KX5.out.lt
      have q0 := hk6.cell 0; have q1 := hk6.cell 1
      simp only [List.getElem?_toArray, List.getElem?_cons_zero, List.getElem?_cons_succ] at q0 q1
      have hc := prog_sound (x1, x2) (HP5.out.below hb6) (fun k hk => by have := (HNS.out k hk).1; omega) HX.out (by omega)
      obtain ⟨Q, hQ⟩ : ∃ Q, soundB b L ms (x1, x2) = Q := ⟨_, rfl⟩
      obtain ⟨q, hq⟩ : ∃ q, decide (Q ≠ []) = q := ⟨_, rfl⟩
      rw [hQ, hq] at hc
      have HQQ := Lib.hid hQ; have Hq := Lib.hid hq; have HC7 := Lib.hid hc; have HB6 := Lib.hid (HB5.out.trans (hb6.mono HB5.out.size)); have HR6 := Lib.hid (HR5.out.below hb6); have KX6 := Lib.hid hk6
      clear hQ hq hc hb6 HC6 HP5 HR5 hk6
      go_wp2_with fail
      refine HC7.out.mono ?_
      rintro e w7 ⟨rfl, hp7, hc7⟩
      have hz7 := hc7.size
      have hlow7 := hc7.low (B := w2.heap.size) (fun k hk => (HNS.out k hk).2.1) (by omega)
      have hr7 := HR6.out.chg hc7 (fun k hk hs => by have := (HNS.out k hs).2.2; have := hk.1; omega)
      have hk7 := KX6.out.below hlow7 (by omega)
      clear q0 q1
      have q0 := hk7.cell 0; have q1 := hk7.cell 1
      simp only [List.getElem?_toArray, List.getElem?_cons_zero, List.getElem?_cons_succ] at q0 q1
      have hc := ref_sound (x1, x2) hr7
      rw [HQQ.out, Hq.out] at hc
      have HC8 := Lib.hid hc; have HB7 := Lib.hid (HB6.out.trans (hlow7.mono (by omega)))
      clear hc hp7 hc7 hlow7 hr7 hk7 HC7 HR6 KX6
      go_wp2_with fail
      refine HC8.out.mono ?_
      rintro e w8 ⟨rfl, hb8⟩
      have HB8 := Lib.hid (HB7.out.trans (hb8.mono HB7.out.size))
      clear hb8 HC8 q0 q1
      generalize asB Q = sq
      generalize asB R.1 = sr
      have e1 : (sr.toList == sr.toList) = true := beq_self_eq_true _
      have e2 : (sq.toList == sq.toList) = true := beq_self_eq_true _
      have e3 : (q == q) = true := beq_self_eq_true _
      have e4 : (R.2 == R.2) = true := beq_self_eq_true _
      go_wp2_with fail
      refine (HWE.out _ HB8.out).mono ?_
      rintro e w11 ⟨rfl, hb11⟩
      have HB11 := Lib.hid hb11
      clear hb11
      go_wp2
      go_ret
      exact ⟨rfl, HB11.out⟩
    · have h6I : (6 : Int) < (n : Int) := by omega
      have h32I : ¬ (n : Int) ≤ 32 := by omega
      have h40I : ¬ (40 : Int) < (n : Int) := by omega
      have k0 := KB2.out.cell 0; have k1 := KB2.out.cell 1; have k2 := KB2.out.cell 2
      simp only [List.getElem?_toArray, List.getElem?_cons_zero, List.getElem?_cons_succ] at k0 k1 k2
      have hm := made_c (HC.out.below HB2.out)
      have HM := Lib.hid hm
      clear hm
      go_wp2_with fail
      refine HM.out.mono ?_
      rintro e w3 hpost
      obtain ⟨p, x, rfl, hb3, hp⟩ := made2 hpost
      have hz3 := hb3.size
      have KX3 := Lib.hid (KX2.out.below hb3 (by omega)); have HB3 := Lib.hid (HB2.out.trans (hb3.mono HB2.out.size)); have KB3 := Lib.hid (KB2.out.below hb3 (by omega)); have HP := Lib.hid hp
      clear hb3 k0 k1 k2 HM KB2 hp hpost
      have k0 := KB3.out.cell 0; have k1 := KB3.out.cell 1; have k2 := KB3.out.cell 2
      simp only [List.getElem?_toArray, List.getElem?_cons_zero, List.getElem?_cons_succ] at k0 k1 k2
      have hm := rmade_c (HC.out.below HB3.out)
      have HM := Lib.hid hm
      clear hm
      go_wp2_with fail
      refine HM.out.mono ?_
      rintro e w4 hpost
      obtain ⟨r, y, rfl, hb4, hr⟩ := rmade2 hpost
      have hz4 := hb4.size
      have KX4 := Lib.hid (KX3.out.below hb4 (by omega)); have HB4 := Lib.hid (HB3.out.trans (hb4.mono HB3.out.size)); have HP4 := Lib.hid (HP.out.below hb4); have HR4 := Lib.hid hr
      clear hb4 k0 k1 k2 HM KB3 hr hpost HP
      generalize decide (caseE fs ms = 0) = b at HP4 HR4
      generalize addsL fs.length [] xs = L at HP4 HR4
      have hNewS : ∀ k, NewB w2 w3 k → k < w4.heap.size ∧ w2.heap.size ≤ k ∧ k < w3.heap.size := fun k hk => ⟨by have := hk.2; omega, hk.1, hk.2⟩
      have hc := prog_print (T := fun k => k < w.heap.size) A n c ws HP4.out (fun k hk => (hNewS k hk).1) (rowS_low (HRW.out.below HB4.out) HB4.out.size) (fun k hk hs => by have := (hNewS k hs).2.1; omega) hn hcm HOK.out (by omega)
      obtain ⟨R, hR⟩ : ∃ R, printB b L ms ws = R := ⟨_, rfl⟩
      rw [hR] at hc
      have HRR := Lib.hid hR; have HCC := Lib.hid hc; have HNS := Lib.hid hNewS
      clear hR hc hNewS
      go_wp2_with fail
      refine HCC.out.mono ?_
      rintro e w5 ⟨rfl, hp5, hc5⟩
      have hz5 := hc5.size
      have hlow5 := hc5.low (B := w2.heap.size) (fun k hk => (HNS.out k hk).2.1) (by omega)
      have hb5 := HB4.out.trans (hlow5.mono (by omega))
      have hr5 := HR4.out.chg hc5 (fun k hk hs => by have := (HNS.out k hs).2.2; have := hk.1; omega)
      have hc := ref_print A n c ws hr5 ((HRW.out.below hb5).more hb5.size) hn hcm HOK.out
      rw [HRR.out] at hc
      have HC6 := Lib.hid hc; have HB5 := Lib.hid hb5; have HP5 := Lib.hid hp5; have HR5 := Lib.hid hr5; have KX5 := Lib.hid (KX4.out.below hlow5 (by omega))
      clear hc hb5 hp5 hr5 HCC hlow5 hc5 HP4 HR4
      go_wp2_with fail
      refine HC6.out.mono ?_
      rintro e w6 ⟨rfl, hb6⟩
      have hz6 := hb6.size
      have hk6 := KX5.out.below hb6 KX5.out.lt
      have q0 := hk6.cell 0; have q1 := hk6.cell 1
      simp only [List.getElem?_toArray, List.getElem?_cons_zero, List.getElem?_cons_succ] at q0 q1
      have hc := prog_sound (x1, x2) (HP5.out.below hb6) (fun k hk => by have := (HNS.out k hk).1; omega) HX.out (by omega)
      obtain ⟨Q, hQ⟩ : ∃ Q, soundB b L ms (x1, x2) = Q := ⟨_, rfl⟩
      obtain ⟨q, hq⟩ : ∃ q, decide (Q ≠ []) = q := ⟨_, rfl⟩
      rw [hQ, hq] at hc
      have HQQ := Lib.hid hQ; have Hq := Lib.hid hq; have HC7 := Lib.hid hc; have HB6 := Lib.hid (HB5.out.trans (hb6.mono HB5.out.size)); have HR6 := Lib.hid (HR5.out.below hb6); have KX6 := Lib.hid hk6
      clear hQ hq hc hb6 HC6 HP5 HR5 hk6
      go_wp2_with fail
      refine HC7.out.mono ?_
      rintro e w7 ⟨rfl, hp7, hc7⟩
      have hz7 := hc7.size
      have hlow7 := hc7.low (B := w2.heap.size) (fun k hk => (HNS.out k hk).2.1) (by omega)
      have hr7 := HR6.out.chg hc7 (fun k hk hs => by have := (HNS.out k hs).2.2; have := hk.1; omega)
      have hk7 := KX6.out.below hlow7 (by omega)
      clear q0 q1
      have q0 := hk7.cell 0; have q1 := hk7.cell 1
      simp only [List.getElem?_toArray, List.getElem?_cons_zero, List.getElem?_cons_succ] at q0 q1
      have hc := ref_sound (x1, x2) hr7
      rw [HQQ.out, Hq.out] at hc
      have HC8 := Lib.hid hc; have HB7 := Lib.hid (HB6.out.trans (hlow7.mono (by omega)))
      clear hc hp7 hc7 hlow7 hr7 hk7 HC7 HR6 KX6
      go_wp2_with fail
      refine HC8.out.mono ?_
      rintro e w8 ⟨rfl, hb8⟩
      have HB8 := Lib.hid (HB7.out.trans (hb8.mono HB7.out.size))
      clear hb8 HC8 q0 q1
      generalize asB Q = sq
      generalize asB R.1 = sr
      have e1 : (sr.toList == sr.toList) = true := beq_self_eq_true _
      have e2 : (sq.toList == sq.toList) = true := beq_self_eq_true _
      have e3 : (q == q) = true := beq_self_eq_true _
      have e4 : (R.2 == R.2) = true := beq_self_eq_true _
      go_wp2_with fail
      refine (HWE.out _ HB8.out).mono ?_
      rintro e w11 ⟨rfl, hb11⟩
      have HB11 := Lib.hid hb11
      clear hb11
      go_wp2
      go_ret
      exact ⟨rfl, HB11.out⟩
end Go.Proofs.YtohggdfplmlinaaGreatDoor
