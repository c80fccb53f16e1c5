/-
  NotationBack: the walk. Conditions: a case and a word that can be read.
-/
import Derived.Test.YtohggdfplmlinaaDoorNtF
namespace Go.Proofs.YtohggdfplmlinaaDoor
open Go.RowKit Go.Lib

set_option linter.unusedSimpArgs false in
set_option maxRecDepth 20000 in
set_option maxHeartbeats 4000000 in
theorem back_law {w : World} {A1 A2 A3 : Option Addr} {n1 c1 n2 c2 n3 c3 : Nat} {fs : List ByteArray} {xs : List Nam} {ms : List Mk} (h : CaseM w w.heap.size A1 A2 A3 n1 c1 n2 c2 n3 c3 fs xs ms)
    (A : Option Addr) (n c : Nat) (ws : List Snd) (hr : Reads w w.heap.size 2 A n (ws.flatMap sndC)) (hok : ∀ s ∈ ws, ok32 s) (hn : n ≤ c) (hc : c ≤ maxLen) :
    Calls Tryd.prog 5 #[caseV A1 A2 A3 n1 c1 n2 c2 n3 c3, .slice A n c] w fun e w' => e = .returned (.bool true) ∧ Below w.heap.size w w' := by
  have hl := hr.len_of (fun _ => rfl) (by decide)
  subst hl
  obtain ⟨W1, hW1⟩ : ∃ W1, w.alloc (.cells #[.slice A1 n1 c1, .slice A2 n2 c2, .slice A3 n3 c3] 26) = W1 := ⟨_, rfl⟩
  have hz : W1.heap.size = w.heap.size + 1 := by rw [← hW1]; simp
  have hb1 : Below w.heap.size w W1 := by rw [← hW1]; exact (Below.refl _ _).alloc (Nat.le_refl _) _
  have kb : Blk W1 w.heap.size 26 #[.slice A1 n1 c1, .slice A2 n2 c2, .slice A3 n3 c3] := by rw [← hW1]; exact Blk.new w _ _
  have hm := made_c (h.below hb1)
  have k0 := kb.cell 0; have k1 := kb.cell 1; have k2 := kb.cell 2
  simp only [List.getElem?_toArray, List.getElem?_cons_zero, List.getElem?_cons_succ] at k0 k1 k2
  have hwk := works_any
  have HM := Lib.hid hm; have KB := Lib.hid kb; have HB1 := Lib.hid hb1; have HWK := Lib.hid hwk; have HR := Lib.hid hr; have HOK := Lib.hid hok
  clear hm kb hb1 hwk h hr hok
  have WEND : ∀ W, Below w.heap.size w W → Calls Tryd.prog 11 #[] W fun e w' => e = .returned (.bool true) ∧ Below w.heap.size w w' := fun W hW => (HWK.out W).mono (by
    rintro e w' ⟨rfl, hb⟩
    exact ⟨rfl, hW.trans (hb.mono hW.size)⟩)
  have HWE := Lib.hid WEND
  clear WEND
  go_enter Tryd.func5, Tryd.ntmps5
  go_wp2_with (rw [hW1])
  refine HM.out.mono ?_
  rintro e w2 ⟨hb2, ⟨hE, g, rfl, hn2⟩ | ⟨hE, rfl⟩⟩
  · have hB2 := HB1.out.trans (hb2.mono HB1.out.size)
    have hz2 := hb2.size
    have kb2 := KB.out.below hb2 (by omega)
    have k0 := kb2.cell 0; have k1 := kb2.cell 1; have k2 := kb2.cell 2
    simp only [List.getElem?_toArray, List.getElem?_cons_zero, List.getElem?_cons_succ] at k0 k1 k2
    have hsm := small_c A1 A2 A3 n1 c1 n2 c2 n3 c3 w2
    have HSM := Lib.hid hsm; have HB2 := Lib.hid hB2; have HN2 := Lib.hid hn2
    clear hsm hB2 hb2 hn2 kb2 hW1 hE
    go_wp2_with fail
    refine HSM.out.mono ?_
    rintro e w3 ⟨rfl, hb3⟩
    have hB3 := HB2.out.trans (hb3.mono HB2.out.size)
    have hn3 := HN2.out.below hb3
    have hz3 := hb3.size
    have HB3 := Lib.hid hB3; have HN3 := Lib.hid hn3
    clear hb3 hB3 hn3 HSM HB2 HN2
    cases hsm : smallK n1 n2 n3 with
    | false =>
      clear hsm
      go_wp2_with fail
      refine (HWE.out _ HB3.out).mono ?_
      rintro e w4 ⟨rfl, hb4⟩
      have HB4 := Lib.hid hb4
      clear hb4
      go_wp2
      go_ret
      exact ⟨rfl, HB4.out⟩
    | true =>
      clear hsm
      by_cases h12 : 12 < ws.length
      · have h12I : (12 : Int) < (ws.length : Int) := by omega
        clear h12
        go_wp2_with fail
        refine (HWE.out _ HB3.out).mono ?_
        rintro e w4 ⟨rfl, hb4⟩
        have HB4 := Lib.hid hb4
        clear hb4
        go_wp2
        go_ret
        exact ⟨rfl, HB4.out⟩
      · have h12I : ¬ (12 : Int) < (ws.length : Int) := by omega
        generalize addsL fs.length [] xs = L at HN3
        obtain ⟨R, hR⟩ : ∃ R, printR L ms ws = R := ⟨_, rfl⟩
        have hpr := print_any A ws.length c ws (fun b => b < w.heap.size) HN3.out (fun b hb => by have := hb.2; omega) ⟨HR.out.1, fun h0 => by
            obtain ⟨ad, e, h1, h2⟩ := (HR.out.below HB3.out).2 h0
            exact ⟨ad, e, h1, by have := HB3.out.size; omega, h2⟩⟩ (fun b h1 h2 => by have := h2.1; omega) hn hc HOK.out (by omega)
        rw [hR] at hpr
        have HPR := Lib.hid hpr; have HRR := Lib.hid hR
        clear hpr hR k0 k1 k2
        go_wp2_with fail
        refine HPR.out.mono ?_
        rintro e w4 ⟨rfl, hn4, hc4⟩
        have hz34 : w.heap.size ≤ w3.heap.size := HB3.out.size
        have hB4 := HB3.out.trans (hc4.low (B := w.heap.size) (fun b hb => by have := hb.1; omega) hz34)
        have hs4 := hc4.size
        have HB4 := Lib.hid hB4; have HN4 := Lib.hid hn4
        clear hn4 hc4 hB4 HPR HN3
        by_cases hre : R.2 = 0
        · have e1 : (R.2 != 0) = false := by rw [hre]; rfl
          obtain ⟨o, ho⟩ : ∃ o, R = (o, 0) := ⟨R.1, by rw [← hre]⟩
          subst ho
          obtain ⟨p1, p2, p3⟩ := printR_ok HN4.out.dots HRR.out
          have hosz : (asB o).size ≤ maxLen := by
            have := printR_len HN4.out.lens.1 HN4.out.lens.2 ws
            rw [HRR.out] at this
            have : o.length ≤ 352 := this
            rw [← size_bs, bs_asB]; unfold maxLen; omega
          have hps := parse_any (w := w4) (asB o) ⟨_, HN4.out⟩ hosz
          have hsm := fun (W : World) (hW : NotN W (NewB W1 w2) g fs L ms (0 + 32 + 32)) => same_any (w := W) (asB o) (asB o) ⟨_, hW⟩ hosz hosz
          have hsame : sameR L ms o o = true := by unfold sameR; rw [decide_eq_true p1]; simp
          rw [bs_asB] at hps
          simp only [bs_asB, hsame] at hsm
          have hnm := fun (W : World) (hW : NotN W (NewB W1 w2) g fs L ms (0 + 32)) (hl : w2.heap.size ≤ W.heap.size) => normal_any (w := W) (asB o) hW (fun b hb => by have := hb.2; omega) hosz (by omega)
          simp only [bs_asB, p3] at hnm
          obtain ⟨Q, hQ⟩ : ∃ Q, readR L ms o = Q := ⟨_, rfl⟩
          rw [hQ] at hps p1 p2
          have HPS := Lib.hid hps; have HSM := Lib.hid hsm; have HNM := Lib.hid hnm
          clear hps hsm hnm hsame hQ p3 hre
          have eQ : (Q.e == 0) = true := by rw [p1]; rfl
          go_wp2_with fail
          refine HPS.out.mono ?_
          rintro e w5 ⟨v, rfl, ho5, hb5⟩
          obtain ⟨A5, c5, rfl, -, -⟩ := ownsRow_form ho5
          rw [p2] at ho5 ⊢
          have hB5 := HB4.out.trans (hb5.mono HB4.out.size)
          have hs5 := hb5.size
          have hn5 := HN4.out.below hb5
          have hnm5 := HNM.out w5 hn5 (by omega)
          have HO5 := Lib.hid ho5; have HB5 := Lib.hid hB5; have HNM5 := Lib.hid hnm5
          clear ho5 hB5 hb5 hn5 hnm5 HPS HNM HN4 HB4
          go_wp2_with fail
          refine HNM5.out.mono ?_
          rintro e w6 ⟨rfl, hn6, hc6⟩
          have hs6 := hc6.size
          have hz5 : w.heap.size ≤ w5.heap.size := HB5.out.size
          have hB6 := HB5.out.trans (hc6.low (B := w.heap.size) (fun b hb => by have := hb.1; omega) hz5)
          have ho6 := own_chgS HO5.out hc6 (fun b hb hS => by have := (HO5.out.lt b hb).1; have := hS.2; omega)
          have heq := refEqual_any A5 A ws.length ws.length c5 c w6.heap.size ws ws w6 (Reads.of_own ho6) ((HR.out.below hB6).more (by have := hB6.size; omega)) (Nat.le_refl _) (by omega)
          rw [decide_eq_true rfl] at heq
          have HEQ := Lib.hid heq; have HN6 := Lib.hid hn6; have HB6 := Lib.hid hB6
          clear heq hn6 hc6 hB6 ho6 HNM5 HO5 HB5
          go_wp2_with fail
          refine HEQ.out.mono ?_
          rintro e w7 ⟨rfl, -, hb7⟩
          have hB7 := HB6.out.trans (hb7.mono HB6.out.size)
          have hsm7 := HSM.out w7 (HN6.out.below hb7)
          have HB7 := Lib.hid hB7; have HSM7 := Lib.hid hsm7
          clear hb7 hB7 hsm7 HSM HN6 HB6 HEQ
          go_wp2_with fail
          refine HSM7.out.mono ?_
          rintro e w8 ⟨rfl, hb8⟩
          have hB8 := HB7.out.trans (hb8.mono HB7.out.size)
          have HB8 := Lib.hid hB8
          clear hb8 hB8 HSM7 HB7
          go_wp2_with fail
          refine (HWE.out _ HB8.out).mono ?_
          rintro e w9 ⟨rfl, hb9⟩
          have HB9 := Lib.hid hb9
          clear hb9
          go_wp2
          go_ret
          exact ⟨rfl, HB9.out⟩
        · have e1 : (R.2 != 0) = true := by rw [bne_iff_ne]; exact hre
          have ho : R.1 = [] := printR_err (show printR L ms ws = (R.1, R.2) from HRR.out) hre
          rw [ho, show asB [] = ⟨#[]⟩ from rfl]
          clear ho hre
          go_wp2_with fail
          refine (HWE.out _ HB4.out).mono ?_
          rintro e w5 ⟨rfl, hb5⟩
          have HB5 := Lib.hid hb5
          clear hb5
          go_wp2
          go_ret
          exact ⟨rfl, HB5.out⟩
  · have e1 : (caseE fs ms != 0) = true := by rw [bne_iff_ne]; exact hE
    have hB2 := HB1.out.trans (hb2.mono HB1.out.size)
    have HB2 := Lib.hid hB2
    clear hB2 hb2 hE k0 k1 k2
    go_wp2_with fail
    refine (HWE.out _ HB2.out).mono ?_
    rintro e w3 ⟨rfl, hb3⟩
    have HB3 := Lib.hid hb3
    clear hb3
    go_wp2
    go_ret
    exact ⟨rfl, HB3.out⟩
end Go.Proofs.YtohggdfplmlinaaDoor
