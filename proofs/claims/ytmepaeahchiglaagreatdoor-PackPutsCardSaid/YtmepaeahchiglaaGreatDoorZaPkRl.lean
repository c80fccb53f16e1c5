/-
  layer 43: Check of laws, the reference's layer 8. Conditions: a law that can be read. (Printed by reflawck.py.)
-/
import Derived.Test.YtmepaeahchiglaaGreatDoorZaal
import Derived.Test.YtmepaeahchiglaaGreatDoorZaba
import Derived.Test.YtmepaeahchiglaaGreatDoorZaag
import Derived.Test.YtmepaeahchiglaaGreatDoorZaac
import Derived.Test.YtmepaeahchiglaaGreatDoorZaPkNm
import Derived.Deep.RegionHeldLaw
namespace Go.Proofs.YtmepaeahchiglaaGreatDoor
open Go.RowKit Go.Lib

set_option linter.unusedSimpArgs false in
set_option maxRecDepth 20000 in
set_option maxHeartbeats 4000000 in
theorem refLawCheck_any (w : World) (B : Nat) (l : Lw) (cs : List Value) (hl : LawC w B l cs) (hB : B ≤ w.heap.size) (hnm : l.name.size ≤ maxLen) :
    Calls Tryz.prog 200 #[.agg cs.toArray] w fun e w' => e = .returned (.int .i64 (lawE l)) ∧ Below w.heap.size w w' := by
  obtain ⟨k1, s1, n1, lo1, hi1, A1, m1, c1, k2, s2, n2, lo2, hi2, A2, m2, c2, A3, c3, A4, c4, rfl, -, -, -, -, hs3, hs4, hm3, hm4⟩ := hl.form
  obtain ⟨res, hres⟩ : ∃ res, lawE l = res := ⟨_, rfl⟩
  rw [hres]
  have hno : lawOk l = false → res = 17 := fun h => by rw [← hres, lawE_no h]
  have hyes : lawOk l = true → res = 0 := fun h => by rw [← hres, lawE_yes h]
  clear hres
  obtain ⟨nm, left, right, ifs, outs, mode⟩ := l
  simp only at hs3 hs4 hm3 hm4 hnm ⊢
  unfold lawOk at hno hyes
  simp only at hno hyes
  have hbel0 : Below w.heap.size w (w.alloc (.cells #[.string nm, .int .i64 k1, .int .u32 s1.1, .int .u32 s1.2, .bool n1, .int .i64 lo1, .int .i64 hi1, .slice A1 m1 c1, .int .i64 k2, .int .u32 s2.1, .int .u32 s2.2, .bool n2, .int .i64 lo2, .int .i64 hi2, .slice A2 m2 c2, .slice A3 ifs.length c3, .slice A4 outs.length c4, .int .i64 mode] 62)) := (Below.refl _ w).alloc (Nat.le_refl _) _
  have hl0 := hl.below (hbel0.mono hB)
  have hb0 : Blk (w.alloc (.cells #[.string nm, .int .i64 k1, .int .u32 s1.1, .int .u32 s1.2, .bool n1, .int .i64 lo1, .int .i64 hi1, .slice A1 m1 c1, .int .i64 k2, .int .u32 s2.1, .int .u32 s2.2, .bool n2, .int .i64 lo2, .int .i64 hi2, .slice A2 m2 c2, .slice A3 ifs.length c3, .slice A4 outs.length c4, .int .i64 mode] 62)) w.heap.size 62 #[.string nm, .int .i64 k1, .int .u32 s1.1, .int .u32 s1.2, .bool n1, .int .i64 lo1, .int .i64 hi1, .slice A1 m1 c1, .int .i64 k2, .int .u32 s2.1, .int .u32 s2.2, .bool n2, .int .i64 lo2, .int .i64 hi2, .slice A2 m2 c2, .slice A3 ifs.length c3, .slice A4 outs.length c4, .int .i64 mode] := Blk.new w _ _
  obtain ⟨Z0, hZ0⟩ : ∃ Z, w.alloc (.cells #[.string nm, .int .i64 k1, .int .u32 s1.1, .int .u32 s1.2, .bool n1, .int .i64 lo1, .int .i64 hi1, .slice A1 m1 c1, .int .i64 k2, .int .u32 s2.1, .int .u32 s2.2, .bool n2, .int .i64 lo2, .int .i64 hi2, .slice A2 m2 c2, .slice A3 ifs.length c3, .slice A4 outs.length c4, .int .i64 mode] 62) = Z := ⟨_, rfl⟩
  rw [hZ0] at hbel0 hl0 hb0
  have HZ0 := Lib.hid hZ0
  have hc1 := refName_any nm Z0 hnm
  have HNO := Lib.hid hno; have HYES := Lib.hid hyes; have HS3 := Lib.hid hs3; have HS4 := Lib.hid hs4
  obtain ⟨y0, y1, y2, y3, y4, y5, y6, y7, y8, y9, y10, y11, y12, y13, y14, y15, y16, y17⟩ := hb0.eighteen
  have HB0 := Lib.hid hb0; have HL0 := Lib.hid hl0; have HE0 := Lib.hid hbel0
  clear hZ0 hno hyes hs3 hs4 hb0 hl0 hbel0 hl
  unfold maxLen at hm3 hm4
  show Calls _ _ #[.agg #[.string nm, .int .i64 k1, .int .u32 s1.1, .int .u32 s1.2, .bool n1, .int .i64 lo1, .int .i64 hi1, .slice A1 m1 c1, .int .i64 k2, .int .u32 s2.1, .int .u32 s2.2, .bool n2, .int .i64 lo2, .int .i64 hi2, .slice A2 m2 c2, .slice A3 ifs.length c3, .slice A4 outs.length c4, .int .i64 mode]] _ _
  go_enter Tryz.func200, Tryz.ntmps200
  go_wp2_with fail
  rw [HZ0.out]
  clear HZ0
  go_wp2_with fail
  cases hok1 : okName nm
  · rw [hok1] at hc1
    refine hc1.mono ?_
    rintro e w1 ⟨rfl, rfl⟩
    have h17 := HNO.out (by rw [hok1]; rfl)
    clear hok1 hc1
    subst h17
    go_wp2
    go_ret
    exact ⟨rfl, HE0.out⟩
  rw [hok1] at hc1
  refine hc1.mono ?_
  rintro e w1 ⟨rfl, rfl⟩
  have HOK1 := Lib.hid hok1
  clear hok1 hc1
  obtain ⟨w1, rfl⟩ : ∃ W, W = Z0 := ⟨_, rfl⟩
  obtain ⟨hp1, hp2, hr3, hr4⟩ := law_parts HL0.out
  have HB1 := HB0; have HL1 := HL0; have HE1 := HE0
  clear HB0 HL0 HE0
  have hcp := refCheck_any left k1 s1 n1 lo1 hi1 A1 m1 c1 w1 B hp1 (Nat.le_trans hB HE1.out.size)
  clear hp1 hp2 hr3 hr4
  have HCP := Lib.hid hcp
  clear hcp
  go_wp2_with fail
  refine HCP.out.mono ?_
  rintro e w2 ⟨x, rfl, hx, hb1⟩
  clear HCP
  by_cases hx0 : x = 0
  case neg =>
    have hok : patOk left = false := by
      cases h : patOk left with
      | false => rfl
      | true => exact absurd (hx.2 h) hx0
    have h17 := HNO.out (by rw [HOK1.out, hok]; simp)
    have hxe : (x != 0) = true := by simpa using hx0
    have HB9 := Lib.hid (HE1.out.trans (hb1.mono HE1.out.size))
    clear hb1 hok hx hx0
    subst h17
    go_wp2
    go_ret
    exact ⟨rfl, HB9.out⟩
  have HOK2 : Hid (patOk left = true) := Lib.hid (hx.1 hx0)
  subst hx0
  clear hx
  have hbx := HB1.out.below hb1 HB1.out.lt
  have hlx := HL1.out.below (hb1.mono (Nat.le_trans hB HE1.out.size))
  have hex := HE1.out.trans (hb1.mono HE1.out.size)
  clear y0 y1 y2 y3 y4 y5 y6 y7 y8 y9 y10 y11 y12 y13 y14 y15 y16 y17
  obtain ⟨y0, y1, y2, y3, y4, y5, y6, y7, y8, y9, y10, y11, y12, y13, y14, y15, y16, y17⟩ := hbx.eighteen
  obtain ⟨hp1, hp2, hr3, hr4⟩ := law_parts hlx
  have HB2 := Lib.hid hbx; have HL2 := Lib.hid hlx; have HE2 := Lib.hid hex
  clear hb1 hbx hlx hex
  have hcp := refCheck_any right k2 s2 n2 lo2 hi2 A2 m2 c2 w2 B hp2 (Nat.le_trans hB HE2.out.size)
  clear hp1 hp2 hr3 hr4
  have HCP := Lib.hid hcp
  clear hcp
  go_wp2_with fail
  refine HCP.out.mono ?_
  rintro e w3 ⟨x, rfl, hx, hb1⟩
  clear HCP
  by_cases hx0 : x = 0
  case neg =>
    have hok : patOk right = false := by
      cases h : patOk right with
      | false => rfl
      | true => exact absurd (hx.2 h) hx0
    have h17 := HNO.out (by rw [HOK1.out, HOK2.out, hok]; simp)
    have hxe : (x != 0) = true := by simpa using hx0
    have HB9 := Lib.hid (HE2.out.trans (hb1.mono HE2.out.size))
    clear hb1 hok hx hx0
    subst h17
    go_wp2
    go_ret
    exact ⟨rfl, HB9.out⟩
  have HOK3 : Hid (patOk right = true) := Lib.hid (hx.1 hx0)
  subst hx0
  clear hx
  have hbx := HB2.out.below hb1 HB2.out.lt
  have hlx := HL2.out.below (hb1.mono (Nat.le_trans hB HE2.out.size))
  have hex := HE2.out.trans (hb1.mono HE2.out.size)
  clear y0 y1 y2 y3 y4 y5 y6 y7 y8 y9 y10 y11 y12 y13 y14 y15 y16 y17
  obtain ⟨y0, y1, y2, y3, y4, y5, y6, y7, y8, y9, y10, y11, y12, y13, y14, y15, y16, y17⟩ := hbx.eighteen
  obtain ⟨hp1, hp2, hr3, hr4⟩ := law_parts hlx
  have HB3 := Lib.hid hbx; have HL3 := Lib.hid hlx; have HE3 := Lib.hid hex
  clear hb1 hbx hlx hex
  clear hp1 hp2 hr3 hr4
  by_cases g3 : ifs.length ≤ 4
  case neg =>
    have h17 := HNO.out (by rw [HOK1.out, HOK2.out, HOK3.out, decide_eq_false (show ¬ (ifs.length ≤ 4) from g3)]; simp)
    have hI : (4 : Int) < (ifs.length : Int) := by omega
    subst h17
    go_wp2_with fail
    go_ret
    exact ⟨rfl, HE3.out⟩
  have hI3 : ¬ (4 : Int) < (ifs.length : Int) := by omega
  by_cases g4 : outs.length ≤ 6
  case neg =>
    have h17 := HNO.out (by rw [HOK1.out, HOK2.out, HOK3.out, decide_eq_true (show ifs.length ≤ 4 from g3), decide_eq_false (show ¬ (outs.length ≤ 6) from g4)]; simp)
    have hI : (6 : Int) < (outs.length : Int) := by omega
    subst h17
    go_wp2_with fail
    go_ret
    exact ⟨rfl, HE3.out⟩
  have hI4 : ¬ (6 : Int) < (outs.length : Int) := by omega
  by_cases g5 : 0 < ifs.length + outs.length
  case neg =>
    have h17 := HNO.out (by rw [HOK1.out, HOK2.out, HOK3.out, decide_eq_true (show ifs.length ≤ 4 from g3), decide_eq_true (show outs.length ≤ 6 from g4), decide_eq_false (show ¬ (0 < ifs.length + outs.length) from g5)]; simp)
    have hI : ((ifs.length : Int) + (outs.length : Int) == 0) = true := by rw [beq_iff_eq]; omega
    subst h17
    go_wp2_with fail
    go_ret
    exact ⟨rfl, HE3.out⟩
  have hI5 : ((ifs.length : Int) + (outs.length : Int) == 0) = false := by rw [beq_eq_false_iff_ne]; omega
  by_cases g6 : 1 ≤ mode ∧ mode ≤ 3
  case neg =>
    have h17 := HNO.out (by rw [HOK1.out, HOK2.out, HOK3.out, decide_eq_true (show ifs.length ≤ 4 from g3), decide_eq_true (show outs.length ≤ 6 from g4), decide_eq_true (show 0 < ifs.length + outs.length from g5), decide_eq_false (show ¬ (1 ≤ mode ∧ mode ≤ 3) from g6)]; simp)
    subst h17
    by_cases g7 : mode < 1
    · have g7d : decide (mode < 1) = true := decide_eq_true g7
      clear g6
      go_wp2_with fail
      go_ret
      exact ⟨rfl, HE3.out⟩
    · have g7d : decide (mode < 1) = false := decide_eq_false g7
      have g8 : (3 : Int) < mode := by omega
      clear g6
      go_wp2_with fail
      go_ret
      exact ⟨rfl, HE3.out⟩
  have hI6 : ¬ mode < 1 := by omega
  have hI6d : decide (mode < 1) = false := decide_eq_false hI6
  have hI7 : ¬ (3 : Int) < mode := by omega
  have hI7d : decide ((3 : Int) < mode) = false := decide_eq_false hI7
  have HG : Hid ((1 ≤ mode ∧ mode ≤ 3) ∧ True) := Lib.hid ⟨g6, trivial⟩
  clear g6
  have HPRE : Hid (∀ b, (okName nm && (patOk left && (patOk right && (decide (ifs.length ≤ 4) && (decide (outs.length ≤ 6) && (decide (0 < ifs.length + outs.length) && (decide (1 ≤ mode ∧ mode ≤ 3) && b))))))) = b) := Lib.hid fun b => by rw [HOK1.out, HOK2.out, HOK3.out, decide_eq_true (show ifs.length ≤ 4 from g3), decide_eq_true (show outs.length ≤ 6 from g4), decide_eq_true (show 0 < ifs.length + outs.length from g5), decide_eq_true (show 1 ≤ mode ∧ mode ≤ 3 from HG.out.1)]; rfl
  have HNO2 : Hid ((ifs.all validS && outs.all (oOk ifs.length)) = false → res = 17) := Lib.hid fun h => HNO.out (by rw [HPRE.out]; exact h)
  have HYES2 : Hid ((ifs.all validS && outs.all (oOk ifs.length)) = true → res = 0) := Lib.hid fun h => HYES.out (by rw [HPRE.out]; exact h)
  clear HNO HYES HPRE HG HOK1 HOK2 HOK3 g5
  go_wp2_with fail
  go_loopw [3] (fun i wr => ∃ k : Nat, k ≤ ifs.length ∧ i = .int .i64 k ∧ (ifs.take k).all validS = true ∧ Below w3.heap.size w3 wr) (fun i _ => ifs.length - (Lib.intOf i).toNat)
  case atStart => exact ⟨0, by omega, rfl, by simp, Below.refl _ _⟩
  case round =>
    obtain ⟨k, hk, rfl, hall, hb⟩ := hrel
    clear y0 y1 y2 y3 y4 y5 y6 y7 y8 y9 y10 y11 y12 y13 y14 y15 y16 y17
    obtain ⟨y0, y1, y2, y3, y4, y5, y6, y7, y8, y9, y10, y11, y12, y13, y14, y15, y16, y17⟩ := (HB3.out.below hb HB3.out.lt).eighteen
    obtain ⟨hp1, hp2, hr3, hr4⟩ := law_parts (HL3.out.below (hb.mono (Nat.le_trans hB HE3.out.size)))
    have HR3 := Lib.hid hr3
    have HALL := Lib.hid hall; have HBR := Lib.hid hb
    have HE4 := Lib.hid (HE3.out.trans (hb.mono HE3.out.size))
    clear hall hb hp1 hp2 hr3 hr4
    by_cases hlt : k < ifs.length
    · have hkI : (k : Int) < (ifs.length : Int) := by omega
      obtain ⟨ad, rfl, had, hc0, hc1⟩ := snd_cells HR3.out hlt
      have hst : (ifs.take (k + 1)).all validS = ((ifs.take k).all validS && validS ifs[k]) := by rw [List.take_succ_eq_append_getElem hlt, List.all_append]; simp
      have HST := Lib.hid hst
      have hmem := List.getElem_mem hlt
      have hOK := HS3.out _ hmem
      clear hst
      cases hv : validS ifs[k]
      · have hmem' : ifs.all validS = false := by rw [List.all_eq_false]; exact ⟨_, hmem, by rw [hv]; decide⟩
        have h17 := HNO2.out (by rw [hmem']; rfl)
        have HV := Lib.hid hv
        clear hmem' hv hmem
        subst h17
        generalize ifs[k] = s at *
        go_wp2_with fail
        refine (rvalid1_any s _ hOK).mono ?_
        rw [HV.out]
        rintro e w5 ⟨rfl, hb5⟩
        have HB5 := Lib.hid hb5
        clear hb5
        go_wp2
        go_ret
        exact ⟨rfl, HE4.out.trans (HB5.out.mono HE4.out.size)⟩
      · have HV := Lib.hid hv
        clear hv hmem
        generalize ifs[k] = s at *
        go_wp2_with fail
        refine (rvalid1_any s _ hOK).mono ?_
        rw [HV.out]
        rintro e w5 ⟨rfl, hb5⟩
        have HB5 := Lib.hid hb5
        clear hb5
        go_wp2
        go_roundw
        case rel => exact ⟨k + 1, by omega, by go_num, by rw [HST.out, HALL.out, HV.out]; rfl, HBR.out.trans (HB5.out.mono HBR.out.size)⟩
        case measure => simp [Lib.intOf]; omega
    · obtain rfl : k = ifs.length := by omega
      have hifs : ifs.all validS = true := by have := HALL.out; rwa [List.take_of_length_le (Nat.le_refl _)] at this
      have HIFS := Lib.hid hifs
      have HB4 := Lib.hid (HB3.out.below HBR.out HB3.out.lt); have HL4 := Lib.hid (HL3.out.below (HBR.out.mono (Nat.le_trans hB HE3.out.size)))
      clear HALL hifs HBR HB3 HL3 HE3 HR3
      obtain ⟨w4, rfl⟩ : ∃ W : World, W = wr := ⟨_, rfl⟩
      go_wp2_with fail
      go_loopw [4] (fun i wr => ∃ k : Nat, k ≤ outs.length ∧ i = .int .i64 k ∧ (outs.take k).all (oOk ifs.length) = true ∧ Below w4.heap.size w4 wr) (fun i _ => outs.length - (Lib.intOf i).toNat)
      case atStart => exact ⟨0, by omega, rfl, by simp, Below.refl _ _⟩
      case round =>
        obtain ⟨j, hj, rfl, hall, hb⟩ := hrel
        clear y0 y1 y2 y3 y4 y5 y6 y7 y8 y9 y10 y11 y12 y13 y14 y15 y16 y17
        obtain ⟨y0, y1, y2, y3, y4, y5, y6, y7, y8, y9, y10, y11, y12, y13, y14, y15, y16, y17⟩ := (HB4.out.below hb HB4.out.lt).eighteen
        obtain ⟨hp1, hp2, hr3, hr4⟩ := law_parts (HL4.out.below (hb.mono (Nat.le_trans hB HE4.out.size)))
        have HR4 := Lib.hid hr4
        have HALL := Lib.hid hall; have HBR := Lib.hid hb
        have HE5 := Lib.hid (HE4.out.trans (hb.mono HE4.out.size))
        clear hall hb hp1 hp2 hr3 hr4
        by_cases hlt : j < outs.length
        · have hjI : (j : Int) < (outs.length : Int) := by omega
          obtain ⟨ad, rfl, had, hc⟩ := out_cells HR4.out hlt
          have hst : (outs.take (j + 1)).all (oOk ifs.length) = ((outs.take j).all (oOk ifs.length) && oOk ifs.length outs[j]) := by rw [List.take_succ_eq_append_getElem hlt, List.all_append]; simp
          have HST := Lib.hid hst
          have hmem := List.getElem_mem hlt
          have hOK := HS4.out _ hmem
          clear hst
          have HF := Lib.hid (refFits_any outs[j] ifs.length wr.drew hOK.1 hOK.2.1 hOK.2.2)
          have hmem' : oOk ifs.length outs[j] = false → outs.all (oOk ifs.length) = false := fun h => by rw [List.all_eq_false]; exact ⟨_, hmem, by rw [h]; decide⟩
          have HME := Lib.hid hmem'
          obtain ⟨ov, hov⟩ : ∃ b, oOk ifs.length outs[j] = b := ⟨_, rfl⟩
          have hov2 : outOk outs[j] (ifs.length : Nat) = ov := hov
          rw [hov2] at HF
          rw [hov] at HST HME
          clear hmem' hmem hOK hov hov2
          have HCS : Hid (∀ W : World, Below wr.heap.size wr W → W.cell? ⟨w.heap.size, 15, none⟩ = some (.slice A3 ifs.length c3) ∧ W.cell? ⟨w.heap.size, 16, none⟩ = some (.slice (some ad) outs.length c4) ∧ W.cell? (ad.add (j * 6)) = some (.int .i64 outs[j].src) ∧ W.cell? ⟨(ad.add (j * 6)).block, (ad.add (j * 6)).off + 1, none⟩ = some (.int .u32 outs[j].clear) ∧ W.cell? ⟨(ad.add (j * 6)).block, (ad.add (j * 6)).off + 2, none⟩ = some (.int .u32 outs[j].set.1) ∧ W.cell? ⟨(ad.add (j * 6)).block, (ad.add (j * 6)).off + 3, none⟩ = some (.int .u32 outs[j].set.2) ∧ W.cell? ⟨(ad.add (j * 6)).block, (ad.add (j * 6)).off + 4, none⟩ = some (.int .u32 outs[j].take) ∧ W.cell? ⟨(ad.add (j * 6)).block, (ad.add (j * 6)).off + 5, none⟩ = some (.int .i64 outs[j].ref)) := Lib.hid fun W hW => ⟨(hW.cell (p := ⟨w.heap.size, 15, none⟩) (HB4.out.below HBR.out HB4.out.lt).lt).trans y15, (hW.cell (p := ⟨w.heap.size, 16, none⟩) (HB4.out.below HBR.out HB4.out.lt).lt).trans y16, (hW.cell (p := ad.add (j * 6)) (by rw [block_of_add]; have := HE5.out.size; omega)).trans hc.1, (hW.cell (p := ⟨(ad.add (j * 6)).block, (ad.add (j * 6)).off + 1, none⟩) (by rw [block_of_add]; have := HE5.out.size; omega)).trans hc.2.1, (hW.cell (p := ⟨(ad.add (j * 6)).block, (ad.add (j * 6)).off + 2, none⟩) (by rw [block_of_add]; have := HE5.out.size; omega)).trans hc.2.2.1, (hW.cell (p := ⟨(ad.add (j * 6)).block, (ad.add (j * 6)).off + 3, none⟩) (by rw [block_of_add]; have := HE5.out.size; omega)).trans hc.2.2.2.1, (hW.cell (p := ⟨(ad.add (j * 6)).block, (ad.add (j * 6)).off + 4, none⟩) (by rw [block_of_add]; have := HE5.out.size; omega)).trans hc.2.2.2.2.1, (hW.cell (p := ⟨(ad.add (j * 6)).block, (ad.add (j * 6)).off + 5, none⟩) (by rw [block_of_add]; have := HE5.out.size; omega)).trans hc.2.2.2.2.2⟩
          have hcx := hc
          clear hc
          obtain ⟨hc0, hc1, hc2, hc3, hc4, hc5⟩ := hcx
          generalize outs[j] = s at *
          go_wp2
          refine wp_region_held_drew (S := (fun W => W.cell? ⟨w.heap.size, 15, none⟩ = some (.slice A3 ifs.length c3) ∧ W.cell? ⟨w.heap.size, 16, none⟩ = some (.slice (some ad) outs.length c4) ∧ W.cell? (ad.add (j * 6)) = some (.int .i64 s.src) ∧ W.cell? ⟨(ad.add (j * 6)).block, (ad.add (j * 6)).off + 1, none⟩ = some (.int .u32 s.clear) ∧ W.cell? ⟨(ad.add (j * 6)).block, (ad.add (j * 6)).off + 2, none⟩ = some (.int .u32 s.set.1) ∧ W.cell? ⟨(ad.add (j * 6)).block, (ad.add (j * 6)).off + 3, none⟩ = some (.int .u32 s.set.2) ∧ W.cell? ⟨(ad.add (j * 6)).block, (ad.add (j * 6)).off + 4, none⟩ = some (.int .u32 s.take) ∧ W.cell? ⟨(ad.add (j * 6)).block, (ad.add (j * 6)).off + 5, none⟩ = some (.int .i64 s.ref))) (by kernel_rfl) ?_ (fun hHeld => ?_)
          · (try dsimp only)
            (first | exact HCS.out _ (Below.refl _ _) | exact HCS.out _ ((Below.refl _ _).drew) | exact HCS.out _ HB5.out)
          refine wpAnyH_take (i := 0) (v := ?_) rfl (by kernel_rfl) (by kernel_rfl) (by kernel_rfl) (fun _ _ _ h => h) (Or.inl ⟨by rfl, ?_⟩) (by assumption) ?_
          rotate_left
          · intro w hSw
            (try dsimp only at hSw)
            go_simp <;> with_reducible rfl
          try simp only [Act.put, List.getElem_toArray, List.getElem_cons_succ, List.getElem_cons_zero, List.setIfInBounds_toArray, List.set_cons_zero, List.set_cons_succ]
          refine wpAnyH_take (i := 1) (v := ?_) rfl (by kernel_rfl) (by kernel_rfl) (by kernel_rfl) (fun _ _ _ h => h) (Or.inl ⟨by rfl, ?_⟩) (by assumption) ?_
          rotate_left
          · intro w hSw
            (try dsimp only at hSw)
            go_simp <;> with_reducible rfl
          try simp only [Act.put, List.getElem_toArray, List.getElem_cons_succ, List.getElem_cons_zero, List.setIfInBounds_toArray, List.set_cons_zero, List.set_cons_succ]
          refine wpAnyH_take (i := 2) (v := ?_) rfl (by kernel_rfl) (by kernel_rfl) (by kernel_rfl) (fun _ _ _ h => h) (Or.inl ⟨by rfl, ?_⟩) (by assumption) ?_
          rotate_left
          · intro w hSw
            (try dsimp only at hSw)
            go_simp <;> with_reducible rfl
          try simp only [Act.put, List.getElem_toArray, List.getElem_cons_succ, List.getElem_cons_zero, List.setIfInBounds_toArray, List.set_cons_zero, List.set_cons_succ]
          refine wpAnyH_take (i := 3) (v := ?_) rfl (by kernel_rfl) (by kernel_rfl) (by kernel_rfl) (fun _ _ _ h => h) (Or.inl ⟨by rfl, ?_⟩) (by assumption) ?_
          rotate_left
          · intro w hSw
            (try dsimp only at hSw)
            go_simp <;> with_reducible rfl
          try simp only [Act.put, List.getElem_toArray, List.getElem_cons_succ, List.getElem_cons_zero, List.setIfInBounds_toArray, List.set_cons_zero, List.set_cons_succ]
          refine wpAnyH_take (i := 4) (v := ?_) rfl (by kernel_rfl) (by kernel_rfl) (by kernel_rfl) (fun _ _ _ h => h) (Or.inl ⟨by rfl, ?_⟩) (by assumption) ?_
          rotate_left
          · intro w hSw
            (try dsimp only at hSw)
            go_simp <;> with_reducible rfl
          try simp only [Act.put, List.getElem_toArray, List.getElem_cons_succ, List.getElem_cons_zero, List.setIfInBounds_toArray, List.set_cons_zero, List.set_cons_succ]
          refine wpAnyH_take (i := 5) (v := ?_) rfl (by kernel_rfl) (by kernel_rfl) (by kernel_rfl) (fun _ _ _ h => h) (Or.inl ⟨by rfl, ?_⟩) (by assumption) ?_
          rotate_left
          · intro w hSw
            (try dsimp only at hSw)
            go_simp <;> with_reducible rfl
          try simp only [Act.put, List.getElem_toArray, List.getElem_cons_succ, List.getElem_cons_zero, List.setIfInBounds_toArray, List.set_cons_zero, List.set_cons_succ]
          refine wpAnyH_take (i := 6) (v := ?_) rfl (by kernel_rfl) (by kernel_rfl) (by kernel_rfl) (fun _ _ _ h => h) (Or.inl ⟨by rfl, ?_⟩) (by assumption) ?_
          rotate_left
          · intro w hSw
            (try dsimp only at hSw)
            go_simp <;> with_reducible rfl
          try simp only [Act.put, List.getElem_toArray, List.getElem_cons_succ, List.getElem_cons_zero, List.setIfInBounds_toArray, List.set_cons_zero, List.set_cons_succ]
          refine wpAnyH_take (i := 7) (v := ?_) rfl (by kernel_rfl) (by kernel_rfl) (by kernel_rfl) (fun _ _ _ h => h) (Or.inl ⟨by rfl, ?_⟩) (by assumption) ?_
          rotate_left
          · intro w hSw
            (try dsimp only at hSw)
            go_simp <;> with_reducible rfl
          try simp only [Act.put, List.getElem_toArray, List.getElem_cons_succ, List.getElem_cons_zero, List.setIfInBounds_toArray, List.set_cons_zero, List.set_cons_succ]
          refine wpAnyH_ready (rs := [8]) (by kernel_rfl) (by simp) ?_
          refine AllReadyH.cons rfl (fun K hK => ?_) AllReadyH.nil
          go_simp
          (try go_wp2_with fail)
          refine HF.out.mono ?_
          rintro e w5 ⟨rfl, hb5⟩
          have HB5 : Hid (Below wr.heap.size wr w5) := Lib.hid (((Below.refl _ wr).drew).trans hb5)
          clear hb5
          (try go_simp)
          refine hK.out _ _ ?_ (fun hHeld' => ?_)
          · (try dsimp only)
            (first | exact HCS.out _ (Below.refl _ _) | exact HCS.out _ ((Below.refl _ _).drew) | exact HCS.out _ HB5.out)
          clear hK K hHeld
          have hHeld := hHeld'
          clear hHeld'
          refine wpAnyH_take (i := 9) (v := ?_) rfl (by kernel_rfl) (by kernel_rfl) (by kernel_rfl) (fun _ _ _ h => h) (Or.inl ⟨by rfl, ?_⟩) (by assumption) ?_
          rotate_left
          · intro w hSw
            (try dsimp only at hSw)
            go_simp <;> with_reducible rfl
          try simp only [Act.put, List.getElem_toArray, List.getElem_cons_succ, List.getElem_cons_zero, List.setIfInBounds_toArray, List.set_cons_zero, List.set_cons_succ]
          refine wpAnyH_done (by kernel_rfl) ?_ _
          cases ov
          · have h17 := HNO2.out (by rw [HME.out rfl, Bool.and_false])
            subst h17
            go_wp2
            go_ret
            exact ⟨rfl, HE5.out.trans (HB5.out.mono HE5.out.size)⟩
          · go_wp2
            go_roundw
            case rel => exact ⟨j + 1, by omega, by go_num, by rw [HST.out, HALL.out]; rfl, HBR.out.trans (HB5.out.mono HBR.out.size)⟩
            case measure => simp [Lib.intOf]; omega
        · obtain rfl : j = outs.length := by omega
          have houts : outs.all (oOk ifs.length) = true := by have := HALL.out; rwa [List.take_of_length_le (Nat.le_refl _)] at this
          have h0 := HYES2.out (by rw [HIFS.out, houts]; rfl)
          clear houts
          subst h0
          go_wp2
          go_ret
          exact ⟨rfl, HE5.out⟩
end Go.Proofs.YtmepaeahchiglaaGreatDoor

