/-
 layer 43: Check of laws, the reference's layer 8. Conditions: a law that can be read. (Printed by reflawck.py.)
-/
import Derived.Test.YtmepaeahchiglaaGreatDoorZdbg
set_option maxRecDepth 20000
set_option maxHeartbeats 8000000
set_option linter.unusedSimpArgs false
namespace Go.Proofs.YtmepaeahchiglaaGreatDoor
open Go.RowKit Go.Lib
theorem sw (w : World) (B : Nat) (l : Lw) (cs : List Value) (hl : fI w B l cs) (hB : B ≤ w.heap.size) (hnm : l.name.size ≤ maxLen) :
 Calls Tryz.prog 200 #[.agg cs.toArray] w fun e w' => e = .returned (.int .i64 (nR l)) ∧ Below w.heap.size w w' := by
 obtain ⟨k1, s1, n1, lo1, hi1, A1, m1, c1, k2, s2, n2, lo2, hi2, A2, m2, c2, A3, c3, A4, c4, rfl, -, -, -, -, hs3, hs4, hm3, hm4⟩ := hl.form
 obtain ⟨res, hres⟩ : ∃ res, nR l = res := ⟨_, rfl⟩
 rw [hres]
 have aS : dE l = false → res = 17 := fun h => by rw [← hres, zo h]
 have eu : dE l = true → res = 0 := fun h => by rw [← hres, vC h]
 clear hres
 obtain ⟨nm, left, right, ifs, outs, mode⟩ := l
 simp only at hs3 hs4 hm3 hm4 hnm ⊢
 unfold dE at aS eu
 simp only at aS eu
 have hbel0 : Below w.heap.size w (w.alloc (.cells #[.string nm, .int .i64 k1, .int .u32 s1.1, .int .u32 s1.2, .bool n1, .int .i64 lo1, .int .i64 hi1, .slice A1 m1 c1, .int .i64 k2, .int .u32 s2.1, .int .u32 s2.2, .bool n2, .int .i64 lo2, .int .i64 hi2, .slice A2 m2 c2, .slice A3 ifs.length c3, .slice A4 outs.length c4, .int .i64 mode] 62)) := (Below.refl _ w).alloc (Nat.le_refl _) _
 have hl0 := hl.below (hbel0.mono hB)
 have hb0 : Blk (w.alloc (.cells #[.string nm, .int .i64 k1, .int .u32 s1.1, .int .u32 s1.2, .bool n1, .int .i64 lo1, .int .i64 hi1, .slice A1 m1 c1, .int .i64 k2, .int .u32 s2.1, .int .u32 s2.2, .bool n2, .int .i64 lo2, .int .i64 hi2, .slice A2 m2 c2, .slice A3 ifs.length c3, .slice A4 outs.length c4, .int .i64 mode] 62)) w.heap.size 62 #[.string nm, .int .i64 k1, .int .u32 s1.1, .int .u32 s1.2, .bool n1, .int .i64 lo1, .int .i64 hi1, .slice A1 m1 c1, .int .i64 k2, .int .u32 s2.1, .int .u32 s2.2, .bool n2, .int .i64 lo2, .int .i64 hi2, .slice A2 m2 c2, .slice A3 ifs.length c3, .slice A4 outs.length c4, .int .i64 mode] := Blk.new w _ _
 obtain ⟨Z0, lZ⟩ : ∃ Z, w.alloc (.cells #[.string nm, .int .i64 k1, .int .u32 s1.1, .int .u32 s1.2, .bool n1, .int .i64 lo1, .int .i64 hi1, .slice A1 m1 c1, .int .i64 k2, .int .u32 s2.1, .int .u32 s2.2, .bool n2, .int .i64 lo2, .int .i64 hi2, .slice A2 m2 c2, .slice A3 ifs.length c3, .slice A4 outs.length c4, .int .i64 mode] 62) = Z := ⟨_, rfl⟩
 rw [lZ] at hbel0 hl0 hb0
 have HZ0 := qh lZ
 have hc1 := Bb nm Z0 hnm
 have cu := qh aS; have wF := qh eu; have ko := qh hs3; have rA := qh hs4
 obtain ⟨y0, y1, y2, y3, y4, y5, y6, y7, y8, y9, y10, y11, y12, y13, y14, y15, y16, y17⟩ := hb0.eighteen
 have HB0 := qh hb0; have PL := qh hl0; have qy := qh hbel0
 clear lZ aS eu hs3 hs4 hb0 hl0 hbel0 hl
 unfold maxLen at hm3 hm4
 show Calls _ _ #[.agg #[.string nm, .int .i64 k1, .int .u32 s1.1, .int .u32 s1.2, .bool n1, .int .i64 lo1, .int .i64 hi1, .slice A1 m1 c1, .int .i64 k2, .int .u32 s2.1, .int .u32 s2.2, .bool n2, .int .i64 lo2, .int .i64 hi2, .slice A2 m2 c2, .slice A3 ifs.length c3, .slice A4 outs.length c4, .int .i64 mode]] _ _
 go_enter Tryz.func200, Tryz.ntmps200
 go_wp2_with fail
 rw [HZ0.out]
 clear HZ0
 go_wp2_with fail
 cases hok1 : aM nm
 ·rw [hok1] at hc1
  refine hc1.mono ?_
  rintro e w1 ⟨rfl, rfl⟩
  have h17 := cu.out (by rw [hok1]; rfl)
  clear hok1 hc1
  subst h17
  go_wp2
  go_ret
  exact ⟨rfl, qy.out⟩
 rw [hok1] at hc1
 refine hc1.mono ?_
 rintro e w1 ⟨rfl, rfl⟩
 have mf := qh hok1
 clear hok1 hc1
 obtain ⟨w1, rfl⟩ : ∃ W, W = Z0 := ⟨_, rfl⟩
 obtain ⟨hp1, hp2, hr3, hr4⟩ := bJ PL.out
 have HB1 := HB0; have PK := PL; have rD := qy
 clear HB0 PL qy
 have hcp := pz left k1 s1 n1 lo1 hi1 A1 m1 c1 w1 B hp1 (Nat.le_trans hB rD.out.size)
 clear hp1 hp2 hr3 hr4
 have zM := qh hcp
 clear hcp
 go_wp2_with fail
 refine zM.out.mono ?_
 rintro e w2 ⟨x, rfl, hx, hb1⟩
 clear zM
 by_cases hx0 : x = 0
 case neg =>
  have hok : eF left = false := by
   cases h : eF left with
   | false => rfl
   | true => exact absurd (hx.2 h) hx0
  have h17 := cu.out (by rw [mf.out, hok]; simp)
  have hxe : (x != 0) = true := by simpa using hx0
  have EK := qh (rD.out.trans (hb1.mono rD.out.size))
  clear hb1 hok hx hx0
  subst h17
  go_wp2
  go_ret
  exact ⟨rfl, EK.out⟩
 have nU : Hid (eF left = true) := qh (hx.1 hx0)
 subst hx0
 clear hx
 have bE := HB1.out.below hb1 HB1.out.lt
 have hlx := PK.out.below (hb1.mono (Nat.le_trans hB rD.out.size))
 have hex := rD.out.trans (hb1.mono rD.out.size)
 clear y0 y1 y2 y3 y4 y5 y6 y7 y8 y9 y10 y11 y12 y13 y14 y15 y16 y17
 obtain ⟨y0, y1, y2, y3, y4, y5, y6, y7, y8, y9, y10, y11, y12, y13, y14, y15, y16, y17⟩ := bE.eighteen
 obtain ⟨hp1, hp2, hr3, hr4⟩ := bJ hlx
 have HB2 := qh bE; have HL2 := qh hlx; have HE2 := qh hex
 clear hb1 bE hlx hex
 have hcp := pz right k2 s2 n2 lo2 hi2 A2 m2 c2 w2 B hp2 (Nat.le_trans hB HE2.out.size)
 clear hp1 hp2 hr3 hr4
 have zM := qh hcp
 clear hcp
 go_wp2_with fail
 refine zM.out.mono ?_
 rintro e w3 ⟨x, rfl, hx, hb1⟩
 clear zM
 by_cases hx0 : x = 0
 case neg =>
  have hok : eF right = false := by
   cases h : eF right with
   | false => rfl
   | true => exact absurd (hx.2 h) hx0
  have h17 := cu.out (by rw [mf.out, nU.out, hok]; simp)
  have hxe : (x != 0) = true := by simpa using hx0
  have EK := qh (HE2.out.trans (hb1.mono HE2.out.size))
  clear hb1 hok hx hx0
  subst h17
  go_wp2
  go_ret
  exact ⟨rfl, EK.out⟩
 have qw : Hid (eF right = true) := qh (hx.1 hx0)
 subst hx0
 clear hx
 have bE := HB2.out.below hb1 HB2.out.lt
 have hlx := HL2.out.below (hb1.mono (Nat.le_trans hB HE2.out.size))
 have hex := HE2.out.trans (hb1.mono HE2.out.size)
 clear y0 y1 y2 y3 y4 y5 y6 y7 y8 y9 y10 y11 y12 y13 y14 y15 y16 y17
 obtain ⟨y0, y1, y2, y3, y4, y5, y6, y7, y8, y9, y10, y11, y12, y13, y14, y15, y16, y17⟩ := bE.eighteen
 obtain ⟨hp1, hp2, hr3, hr4⟩ := bJ hlx
 have HB3 := qh bE; have PI := qh hlx; have nV := qh hex
 clear hb1 bE hlx hex
 clear hp1 hp2 hr3 hr4
 by_cases g3 : ifs.length ≤ 4
 case neg =>
  have h17 := cu.out (by rw [mf.out, nU.out, qw.out, decide_eq_false (show ¬ (ifs.length ≤ 4) from g3)]; simp)
  have hI : (4 : Int) < (ifs.length : Int) := by omega
  subst h17
  go_wp2_with fail
  go_ret
  exact ⟨rfl, nV.out⟩
 have hI3 : ¬ (4 : Int) < (ifs.length : Int) := by omega
 by_cases g4 : outs.length ≤ 6
 case neg =>
  have h17 := cu.out (by rw [mf.out, nU.out, qw.out, decide_eq_true (show ifs.length ≤ 4 from g3), decide_eq_false (show ¬ (outs.length ≤ 6) from g4)]; simp)
  have hI : (6 : Int) < (outs.length : Int) := by omega
  subst h17
  go_wp2_with fail
  go_ret
  exact ⟨rfl, nV.out⟩
 have Z9 : ¬ (6 : Int) < (outs.length : Int) := by omega
 by_cases g5 : 0 < ifs.length + outs.length
 case neg =>
  have h17 := cu.out (by rw [mf.out, nU.out, qw.out, decide_eq_true (show ifs.length ≤ 4 from g3), decide_eq_true (show outs.length ≤ 6 from g4), decide_eq_false (show ¬ (0 < ifs.length + outs.length) from g5)]; simp)
  have hI : ((ifs.length : Int) + (outs.length : Int) == 0) = true := by rw [beq_iff_eq]; omega
  subst h17
  go_wp2_with fail
  go_ret
  exact ⟨rfl, nV.out⟩
 have Z8 : ((ifs.length : Int) + (outs.length : Int) == 0) = false := by rw [beq_eq_false_iff_ne]; omega
 by_cases g6 : 1 ≤ mode ∧ mode ≤ 3
 case neg =>
  have h17 := cu.out (by rw [mf.out, nU.out, qw.out, decide_eq_true (show ifs.length ≤ 4 from g3), decide_eq_true (show outs.length ≤ 6 from g4), decide_eq_true (show 0 < ifs.length + outs.length from g5), decide_eq_false (show ¬ (1 ≤ mode ∧ mode ≤ 3) from g6)]; simp)
  subst h17
  by_cases g7 : mode < 1
  ·have Xu : decide (mode < 1) = true := decide_eq_true g7
   clear g6
   go_wp2_with fail
   go_ret
   exact ⟨rfl, nV.out⟩
  ·have Xu : decide (mode < 1) = false := decide_eq_false g7
   have g8 : (3 : Int) < mode := by omega
   clear g6
   go_wp2_with fail
   go_ret
   exact ⟨rfl, nV.out⟩
 have Xk : ¬ mode < 1 := by omega
 have Xj : decide (mode < 1) = false := decide_eq_false Xk
 have Xi : ¬ (3 : Int) < mode := by omega
 have Xh : decide ((3 : Int) < mode) = false := decide_eq_false Xi
 have HG : Hid ((1 ≤ mode ∧ mode ≤ 3) ∧ True) := qh ⟨g6, trivial⟩
 clear g6
 have Cx : Hid (∀ b, (aM nm && (eF left && (eF right && (decide (ifs.length ≤ 4) && (decide (outs.length ≤ 6) && (decide (0 < ifs.length + outs.length) && (decide (1 ≤ mode ∧ mode ≤ 3) && b))))))) = b) := qh fun b => by rw [mf.out, nU.out, qw.out, decide_eq_true (show ifs.length ≤ 4 from g3), decide_eq_true (show outs.length ≤ 6 from g4), decide_eq_true (show 0 < ifs.length + outs.length from g5), decide_eq_true (show 1 ≤ mode ∧ mode ≤ 3 from HG.out.1)]; rfl
 have UM : Hid ((ifs.all ax && outs.all (sJ ifs.length)) = false → res = 17) := qh fun h => cu.out (by rw [Cx.out]; exact h)
 have TS : Hid ((ifs.all ax && outs.all (sJ ifs.length)) = true → res = 0) := qh fun h => wF.out (by rw [Cx.out]; exact h)
 clear cu wF Cx HG mf nU qw g5
 go_wp2_with fail
 go_loopw [3] (fun i wr => ∃ k : Nat, k ≤ ifs.length ∧ i = .int .i64 k ∧ (ifs.take k).all ax = true ∧ Below w3.heap.size w3 wr) (fun i _ => ifs.length - (Lib.intOf i).toNat)
 case atStart => exact ⟨0, by omega, rfl, by simp, Below.refl _ _⟩
 case round =>
  obtain ⟨k, hk, rfl, aI, hb⟩ := hrel
  clear y0 y1 y2 y3 y4 y5 y6 y7 y8 y9 y10 y11 y12 y13 y14 y15 y16 y17
  obtain ⟨y0, y1, y2, y3, y4, y5, y6, y7, y8, y9, y10, y11, y12, y13, y14, y15, y16, y17⟩ := (HB3.out.below hb HB3.out.lt).eighteen
  obtain ⟨hp1, hp2, hr3, hr4⟩ := bJ (PI.out.below (hb.mono (Nat.le_trans hB nV.out.size)))
  have HR3 := qh hr3
  have bf := qh aI; have FK := qh hb
  have sj := qh (nV.out.trans (hb.mono nV.out.size))
  clear aI hb hp1 hp2 hr3 hr4
  by_cases hlt : k < ifs.length
  ·have cB : (k : Int) < (ifs.length : Int) := by omega
   obtain ⟨ad, rfl, had, hc0, hc1⟩ := fA HR3.out hlt
   have aF : (ifs.take (k + 1)).all ax = ((ifs.take k).all ax && ax ifs[k]) := by rw [List.take_succ_eq_append_getElem hlt, List.all_append]; simp
   have bL := qh aF
   have hmem := List.getElem_mem hlt
   have sN := ko.out _ hmem
   clear aF
   cases hv : ax ifs[k]
   ·have hmem' : ifs.all ax = false := by rw [List.all_eq_false]; exact ⟨_, hmem, by rw [hv]; decide⟩
    have h17 := UM.out (by rw [hmem']; rfl)
    have HV := qh hv
    clear hmem' hv hmem
    subst h17
    generalize ifs[k] = s at *
    go_wp2_with fail
    refine (gy s _ sN).mono ?_
    rw [HV.out]
    rintro e w5 ⟨rfl, hb5⟩
    have mh := qh hb5
    clear hb5
    go_wp2
    go_ret
    exact ⟨rfl, sj.out.trans (mh.out.mono sj.out.size)⟩
   ·have HV := qh hv
    clear hv hmem
    generalize ifs[k] = s at *
    go_wp2_with fail
    refine (gy s _ sN).mono ?_
    rw [HV.out]
    rintro e w5 ⟨rfl, hb5⟩
    have mh := qh hb5
    clear hb5
    go_wp2
    go_roundw
    case rel => exact ⟨k + 1, by omega, by go_num, by rw [bL.out, bf.out, HV.out]; rfl, FK.out.trans (mh.out.mono FK.out.size)⟩
    case measure => simp [Lib.intOf]; omega
  ·obtain rfl : k = ifs.length := by omega
   have Rx : ifs.all ax = true := by have := bf.out; rwa [List.take_of_length_le (Nat.le_refl _)] at this
   have Yo := qh Rx
   have tK := qh (HB3.out.below FK.out HB3.out.lt); have VQ := qh (PI.out.below (FK.out.mono (Nat.le_trans hB nV.out.size)))
   clear bf Rx FK HB3 PI nV HR3
   obtain ⟨w4, rfl⟩ : ∃ W : World, W = wr := ⟨_, rfl⟩
   go_wp2_with fail
   go_loopw [4] (fun i wr => ∃ k : Nat, k ≤ outs.length ∧ i = .int .i64 k ∧ (outs.take k).all (sJ ifs.length) = true ∧ Below w4.heap.size w4 wr) (fun i _ => outs.length - (Lib.intOf i).toNat)
   case atStart => exact ⟨0, by omega, rfl, by simp, Below.refl _ _⟩
   case round =>
    obtain ⟨j, hj, rfl, aI, hb⟩ := hrel
    clear y0 y1 y2 y3 y4 y5 y6 y7 y8 y9 y10 y11 y12 y13 y14 y15 y16 y17
    obtain ⟨y0, y1, y2, y3, y4, y5, y6, y7, y8, y9, y10, y11, y12, y13, y14, y15, y16, y17⟩ := (tK.out.below hb tK.out.lt).eighteen
    obtain ⟨hp1, hp2, hr3, hr4⟩ := bJ (VQ.out.below (hb.mono (Nat.le_trans hB sj.out.size)))
    have HR4 := qh hr4
    have bf := qh aI; have FK := qh hb
    have Hz := qh (sj.out.trans (hb.mono sj.out.size))
    clear aI hb hp1 hp2 hr3 hr4
    by_cases hlt : j < outs.length
    ·have JU : (j : Int) < (outs.length : Int) := by omega
     obtain ⟨ad, rfl, had, hc⟩ := kP HR4.out hlt
     have aF : (outs.take (j + 1)).all (sJ ifs.length) = ((outs.take j).all (sJ ifs.length) && sJ ifs.length outs[j]) := by rw [List.take_succ_eq_append_getElem hlt, List.all_append]; simp
     have bL := qh aF
     have hmem := List.getElem_mem hlt
     have sN := rA.out _ hmem
     clear aF
     have HF := qh (Bd outs[j] ifs.length wr.drew sN.1 sN.2.1 sN.2.2)
     have hmem' : sJ ifs.length outs[j] = false → outs.all (sJ ifs.length) = false := fun h => by rw [List.all_eq_false]; exact ⟨_, hmem, by rw [h]; decide⟩
     have Zt := qh hmem'
     obtain ⟨ov, hov⟩ : ∃ b, sJ ifs.length outs[j] = b := ⟨_, rfl⟩
     have hov2 : gZ outs[j] (ifs.length : Nat) = ov := hov
     rw [hov2] at HF
     rw [hov] at bL Zt
     clear hmem' hmem sN hov hov2
     have nW : Hid (∀ W : World, Below wr.heap.size wr W → W.cell? ⟨w.heap.size, 15, none⟩ = some (.slice A3 ifs.length c3) ∧ W.cell? ⟨w.heap.size, 16, none⟩ = some (.slice (some ad) outs.length c4) ∧ W.cell? (ad.add (j * 6)) = some (.int .i64 outs[j].src) ∧ W.cell? ⟨(ad.add (j * 6)).block, (ad.add (j * 6)).off + 1, none⟩ = some (.int .u32 outs[j].clear) ∧ W.cell? ⟨(ad.add (j * 6)).block, (ad.add (j * 6)).off + 2, none⟩ = some (.int .u32 outs[j].set.1) ∧ W.cell? ⟨(ad.add (j * 6)).block, (ad.add (j * 6)).off + 3, none⟩ = some (.int .u32 outs[j].set.2) ∧ W.cell? ⟨(ad.add (j * 6)).block, (ad.add (j * 6)).off + 4, none⟩ = some (.int .u32 outs[j].take) ∧ W.cell? ⟨(ad.add (j * 6)).block, (ad.add (j * 6)).off + 5, none⟩ = some (.int .i64 outs[j].ref)) := qh fun W hW => ⟨(hW.cell (p := ⟨w.heap.size, 15, none⟩) (tK.out.below FK.out tK.out.lt).lt).trans y15, (hW.cell (p := ⟨w.heap.size, 16, none⟩) (tK.out.below FK.out tK.out.lt).lt).trans y16, (hW.cell (p := ad.add (j * 6)) (by rw [block_of_add]; have := Hz.out.size; omega)).trans hc.1, (hW.cell (p := ⟨(ad.add (j * 6)).block, (ad.add (j * 6)).off + 1, none⟩) (by rw [block_of_add]; have := Hz.out.size; omega)).trans hc.2.1, (hW.cell (p := ⟨(ad.add (j * 6)).block, (ad.add (j * 6)).off + 2, none⟩) (by rw [block_of_add]; have := Hz.out.size; omega)).trans hc.2.2.1, (hW.cell (p := ⟨(ad.add (j * 6)).block, (ad.add (j * 6)).off + 3, none⟩) (by rw [block_of_add]; have := Hz.out.size; omega)).trans hc.2.2.2.1, (hW.cell (p := ⟨(ad.add (j * 6)).block, (ad.add (j * 6)).off + 4, none⟩) (by rw [block_of_add]; have := Hz.out.size; omega)).trans hc.2.2.2.2.1, (hW.cell (p := ⟨(ad.add (j * 6)).block, (ad.add (j * 6)).off + 5, none⟩) (by rw [block_of_add]; have := Hz.out.size; omega)).trans hc.2.2.2.2.2⟩
     have hcx := hc
     clear hc
     obtain ⟨hc0, hc1, hc2, hc3, hc4, hc5⟩ := hcx
     generalize outs[j] = s at *
     go_wp2
     refine wp_region_held_drew (S := (fun W => W.cell? ⟨w.heap.size, 15, none⟩ = some (.slice A3 ifs.length c3) ∧ W.cell? ⟨w.heap.size, 16, none⟩ = some (.slice (some ad) outs.length c4) ∧ W.cell? (ad.add (j * 6)) = some (.int .i64 s.src) ∧ W.cell? ⟨(ad.add (j * 6)).block, (ad.add (j * 6)).off + 1, none⟩ = some (.int .u32 s.clear) ∧ W.cell? ⟨(ad.add (j * 6)).block, (ad.add (j * 6)).off + 2, none⟩ = some (.int .u32 s.set.1) ∧ W.cell? ⟨(ad.add (j * 6)).block, (ad.add (j * 6)).off + 3, none⟩ = some (.int .u32 s.set.2) ∧ W.cell? ⟨(ad.add (j * 6)).block, (ad.add (j * 6)).off + 4, none⟩ = some (.int .u32 s.take) ∧ W.cell? ⟨(ad.add (j * 6)).block, (ad.add (j * 6)).off + 5, none⟩ = some (.int .i64 s.ref))) (by kernel_rfl) ?_ (fun ah => ?_)
     ·(try dsimp only)
      (first | exact nW.out _ (Below.refl _ _) | exact nW.out _ ((Below.refl _ _).drew) | exact nW.out _ mh.out)
     iterate 8
      refine tkH 0 (v := ?_) rfl (fun _ _ _ h => h) ?_ ?_
      rotate_left
      ·intro w hSw; (try dsimp only at hSw); (try simp only [tkN, gq3, gq1]); go_simp <;> with_reducible rfl
      try simp only [tkN, Act.put, gq3, gq1]
     refine rdH 8 fun K hK => ?_
     go_simp
     (try go_wp2_with fail)
     refine HF.out.mono ?_
     rintro e w5 ⟨rfl, hb5⟩
     have mh : Hid (Below wr.heap.size wr w5) := qh (((Below.refl _ wr).drew).trans hb5)
     clear hb5
     (try go_simp)
     refine hK.out _ _ ?_ (fun aJ => ?_)
     ·(try dsimp only)
      (first | exact nW.out _ (Below.refl _ _) | exact nW.out _ ((Below.refl _ _).drew) | exact nW.out _ mh.out)
     clear hK K ah; rename _ => ah
     refine tkH 9 (v := ?_) rfl (fun _ _ _ h => h) ?_ ?_
     rotate_left
     ·intro w hSw; (try dsimp only at hSw); (try simp only [tkN, gq3, gq1]); go_simp <;> with_reducible rfl
     try simp only [tkN, Act.put, gq3, gq1]
     refine wpAnyH_done (by kernel_rfl) ?_ _
     cases ov
     ·have h17 := UM.out (by rw [Zt.out rfl, Bool.and_false])
      subst h17
      go_wp2
      go_ret
      exact ⟨rfl, Hz.out.trans (mh.out.mono Hz.out.size)⟩
     ·go_wp2
      go_roundw
      case rel => exact ⟨j + 1, by omega, by go_num, by rw [bL.out, bf.out]; rfl, FK.out.trans (mh.out.mono FK.out.size)⟩
      case measure => simp [Lib.intOf]; omega
    ·obtain rfl : j = outs.length := by omega
     have ND : outs.all (sJ ifs.length) = true := by have := bf.out; rwa [List.take_of_length_le (Nat.le_refl _)] at this
     have h0 := TS.out (by rw [Yo.out, ND]; rfl)
     clear ND
     subst h0
     go_wp2
     go_ret
     exact ⟨rfl, Hz.out⟩
theorem BF (t : List Nd) (on : List (List Int)) (i : Nat) : ∀ k, i < k → (lensL t on k)[i]?.getD 0 = lY t on i
 | 0, h => absurd h (Nat.not_lt_zero _)
 | k + 1, h => by
   rw [EY]
   by_cases e : i = k
   ·rw [if_pos e, e]
   ·rw [if_neg e]; exact BF t on i k (by omega)
theorem EZ {t : List Nd} {on : List (List Int)} {v : Nat} (hv : v < t.length) (ho : v < on.length) (eQ : jP v t[v] = true) :
 lY t on v = (if 0 ≤ t[v].1 then lY t on t[v].1.toNat else 0) + on[v].length := by
 have hp := kR eQ
 unfold lY
 rw [List.getElem?_eq_getElem hv, List.getElem?_eq_getElem ho, Option.getD_some, Option.getD_some, Nat.add_comm]
 congr 1
 by_cases h : 0 ≤ t[v].1
 ·rw [if_pos h, if_pos h, BF t on _ v (by omega)]; rfl
 ·rw [if_neg h, if_neg h]
theorem DL {t : List Nd} {on : List (List Int)} (eQ : ∀ (i : Nat) (hi : i < t.length), jP i t[i] = true) (hlen : on.length = t.length) (hon : ∀ l ∈ on, l.length ≤ 1000000000) : ∀ v, v < t.length → lY t on v ≤ 1000000000 * (v + 1) := by
 intro v
 induction v using Nat.strongRecOn with
 | ind v ih =>
   intro hv
   have ho : v < on.length := by omega
   have h1 := hon _ (List.getElem_mem ho)
   rw [EZ hv ho (eQ v hv)]
   have hp := kR (eQ v hv)
   by_cases h : 0 ≤ t[v].1
   ·rw [if_pos h]
    have h2 := ih t[v].1.toNat (by omega) (by omega)
    have h3 : t[v].1.toNat + 1 ≤ v := by omega
    have h4 : 1000000000 * (t[v].1.toNat + 1) ≤ 1000000000 * v := Nat.mul_le_mul_left _ h3
    omega
   ·rw [if_neg h]; omega
def Fx (w : World) (n : Nat) (e : Ending) (w' : World) : Prop := ∃ v xs, e = .returned v ∧ w'.ownsRow w.heap.size 3 1 v n xs ∧ Below w.heap.size w w'
theorem Jt (p : Int) (hp : p < 0) (A4 A5 A6 : Option Addr) (m4 m5 m6 c4 c5 c6 : Nat) (w : World) :
 Calls Tryz.prog 201 #[.agg #[.slice A4 m4 c4, .slice A5 m5 c5, .slice A6 m6 c6], .int .i64 p] w (Fx w 0) := by
 go_enter Tryz.func201, Tryz.ntmps201
 go_wp2
 go_ret
 exact ⟨_, [], rfl, World.ownsRow_nil _ _ _ _, (Below.refl _ _).alloc (Nat.le_refl _) _⟩
theorem Ju (A4 A5 A6 : Option Addr) (m4 m5 m6 c4 c5 c6 B : Nat) (t : List Nd) (on : List (List Int)) (eQ : ∀ (i : Nat) (hi : i < t.length), jP i t[i] = true) (h63 : t.length ≤ 63) (hlen : on.length = t.length) (hon : ∀ l ∈ on, l.length ≤ 1000000000) : ∀ (v : Nat) (w : World), aP Ho 2 w B t (.slice A4 m4 c4) → aP si 1 w B on (.slice A6 m6 c6) → B ≤ w.heap.size → v < t.length →
 Calls Tryz.prog 201 #[.agg #[.slice A4 m4 c4, .slice A5 m5 c5, .slice A6 m6 c6], .int .i64 (v : Int)] w (Fx w (lY t on v)) := by
 obtain ⟨i0, hi, hz0, hz1, hz2⟩ := info_parts (show (Tryz.prog.info? 3).map (fun i => (i.zero, i.size, i.bytes)) = some (some (.int .i64 0), 1, 8) by kernel_rfl)
 intro v
 induction v using Nat.strongRecOn with
 | ind v ih =>
   intro w h4 h6 hB hv
   have ho : v < on.length := by omega
   have wX := kR (eQ v hv)
   have hlk := EZ hv ho (eQ v hv)
   have hbd := DL eQ hlen hon v hv
   have hb0 := (Below.refl w.heap.size w).alloc (Nat.le_refl _) (.cells #[.slice A4 m4 c4, .slice A5 m5 c5, .slice A6 m6 c6] 29)
   have hk0 := Blk.new w 29 #[.slice A4 m4 c4, .slice A5 m5 c5, .slice A6 m6 c6]
   have hle1 : w.heap.size ≤ (w.alloc (.cells #[.slice A4 m4 c4, .slice A5 m5 c5, .slice A6 m6 c6] 29)).heap.size := by rw [World.size_alloc]; omega
   have hlt1 : w.heap.size < (w.alloc (.cells #[.slice A4 m4 c4, .slice A5 m5 c5, .slice A6 m6 c6] 29)).heap.size := by rw [World.size_alloc]; omega
   have dP := fun (W : World) (hW : Below w.heap.size w W) => fun (q : Addr) (hq : q.block < B) => hW.cell (p := q) (Nat.lt_of_lt_of_le hq hB)
   obtain ⟨W0, hW0⟩ : ∃ W, w.alloc (.cells #[.slice A4 m4 c4, .slice A5 m5 c5, .slice A6 m6 c6] 29) = W := ⟨_, rfl⟩
   rw [hW0] at hb0 hk0 hle1 hlt1
   have ae : Calls Tryz.prog 201 #[.agg #[.slice A4 m4 c4, .slice A5 m5 c5, .slice A6 m6 c6], .int .i64 t[v].1] W0.drew (Fx W0.drew (if 0 ≤ t[v].1 then lY t on t[v].1.toNat else 0)) := by
    by_cases h : 0 ≤ t[v].1
    ·rw [if_pos h]
     have h2 := ih t[v].1.toNat (by omega) W0.drew (aP.plain (dP W0.drew hb0.drew) h4 (fun _ _ h => h)) (aP.plain (dP W0.drew hb0.drew) h6 (fun _ _ h => si.keep (dP W0.drew hb0.drew) h)) (Nat.le_trans hB hle1) (by omega)
     rw [show ((t[v].1.toNat : Nat) : Int) = t[v].1 by omega] at h2
     exact h2
    ·rw [if_neg h]
     exact Jt _ (by omega) A4 A5 A6 m4 m5 m6 c4 c5 c6 W0.drew
   obtain ⟨ad, cs, rfl, had, hP, aC⟩ := aW (yc (f := fun x : Nd => [Value.int .i64 x.1, Value.string x.2]) (m := 2) fun _ => rfl) h4 hv
   obtain ⟨ad6, cs6, rfl, had6, Z7, hcc6⟩ := aW Jf h6 ho
   have hm4 := h4.len.1
   have hm6 := h6.len.1
   have WL := h4.len.2
   have WK := h6.len.2
   unfold maxLen at WL WK
   have hvI : (v : Int) < (m4 : Int) := by omega
   have hvI6 : (v : Int) < (m6 : Int) := by omega
   have hv0 : (0 : Int) ≤ (v : Int) := by omega
   have hvn : ¬ (v : Int) < 0 := by omega
   generalize t[v] = x at *
   obtain ⟨par, nm⟩ := x
   obtain rfl : cs = [.int .i64 par, .string nm] := hP
   have e0 := aC 0 _ rfl
   rw [Nat.add_zero] at e0
   generalize on[v] = l at *
   obtain ⟨vx, rfl, rX⟩ := Z7
   obtain ⟨Ax, cx, rfl, ⟨hx1, hx2⟩, DY⟩ := rX.flat
   have e6 := hcc6 0 _ rfl
   rw [Nat.mul_one, Nat.add_zero] at e6
   simp only [] at wX hlk ae e0
   clear aC hcc6 wX ih
   obtain ⟨q, hq⟩ : ∃ q, (if 0 ≤ par then lY t on par.toNat else 0) = q := ⟨_, rfl⟩
   rw [hq] at hlk ae
   obtain ⟨ln, hln⟩ : ∃ m, l.length = m := ⟨_, rfl⟩
   obtain ⟨lk, JS⟩ : ∃ m, lY t on v = m := ⟨_, rfl⟩
   rw [flatMap_one] at DY
   rw [hln] at hx1 e6 DY hlk rX
   rw [JS] at hlk hbd ⊢
   have hv63 : v ≤ 62 := by omega
   have hbd2 : q + ln ≤ 63000000000 := by
    have : 1000000000 * (v + 1) ≤ 1000000000 * 63 := Nat.mul_le_mul_left _ (by omega)
    omega
   have hS : ∀ W : World, Below w.heap.size w W → Blk W w.heap.size 29 #[.slice (some ad) m4 c4, .slice A5 m5 c5, .slice (some ad6) m6 c6] → (W.cell? ⟨w.heap.size, 0, none⟩ = some (.slice (some ad) m4 c4) ∧ W.cell? ⟨w.heap.size, 1, none⟩ = some (.slice A5 m5 c5) ∧ W.cell? ⟨w.heap.size, 2, none⟩ = some (.slice (some ad6) m6 c6)) ∧ W.cell? (ad.add (v * 2)) = some (.int .i64 par) ∧ W.cell? (ad6.add v) = some (.slice Ax ln cx) := fun W hW hb => by
    have g0 := hb.cell 0
    have g1 := hb.cell 1
    have g2 := hb.cell 2
    simp only [gq2] at g0 g1 g2
    exact ⟨⟨g0, g1, g2⟩, (dP W hW _ (by rw [gq]; exact had)).trans e0, (dP W hW _ (by rw [gq]; exact had6)).trans e6⟩
   have HS := qh hS; have aj := qh ae; have HB0 := qh hb0; have jg := qh hk0; have TT := qh DY; have Qq := qh hlk; have HW0 := qh hW0
   have hs0 := hS _ hb0.drew hk0.drew
   clear hS ae hb0 hk0 DY hlk hW0 dP e0 e6 h4 h6 hq hln JS rX eQ hbd hm4 hm6 hlen hon hv ho had had6
   obtain ⟨hq1, hq2, hq3⟩ := hs0
   go_enter Tryz.func201, Tryz.ntmps201
   go_wp2_with (rw [HW0.out])
   refine wp_region_held_drew (S := (fun W => (W.cell? ⟨w.heap.size, 0, none⟩ = some (.slice (some ad) m4 c4) ∧ W.cell? ⟨w.heap.size, 1, none⟩ = some (.slice A5 m5 c5) ∧ W.cell? ⟨w.heap.size, 2, none⟩ = some (.slice (some ad6) m6 c6)) ∧ W.cell? (ad.add (v * 2)) = some (.int .i64 par) ∧ W.cell? (ad6.add v) = some (.slice Ax ln cx))) (by kernel_rfl) ?_ (fun ah => ?_)
   ·(try dsimp only)
    (first | exact ⟨hq1, hq2, hq3⟩ | exact hs3 | exact hs2)
   iterate 7
    refine tkH 0 (v := ?_) rfl (fun _ _ _ h => h) ?_ ?_
    rotate_left
    ·intro w hSw; (try dsimp only at hSw); (try simp only [tkN, gq3, gq1]); go_simp <;> with_reducible rfl
    try simp only [tkN, Act.put, gq3, gq1]
   iterate 5
    refine tkH 8 (v := ?_) rfl (fun _ _ _ h => h) ?_ ?_
    rotate_left
    ·intro w hSw; (try dsimp only at hSw); (try simp only [tkN, gq3, gq1]); go_simp <;> with_reducible rfl
    try simp only [tkN, Act.put, gq3, gq1]
   refine rdH 7 fun K hK => ?_
   go_simp
   (try go_wp2_with fail)
   refine aj.out.mono ?_
   rintro e w2 ⟨v2, xs2, rfl, ho2, hb2⟩
   have hb2' : Below w.heap.size w w2 := HB0.out.drew.trans (hb2.mono hle1)
   have hs2 := HS.out w2 hb2' ((jg.out.drew).below hb2 hlt1)
   have jf := qh (dh ho2 hle1); have HB2 := qh hb2'; have zL := qh ((jg.out.drew).below hb2 hlt1); have XJ := qh (TT.out.below (hb2'.mono hB))
   clear ho2 hb2 hb2'
   (try go_simp)
   refine hK.out _ _ ?_ (fun aJ => ?_)
   ·(try dsimp only)
    (first | exact ⟨hq1, hq2, hq3⟩ | exact hs3 | exact hs2)
   clear hK K ah; rename _ => ah
   refine rdH 13 fun K hK => ?_
   refine step_append_any _ (by rfl) (.tmp 14) (.tmp 19) 144 (by rfl) w.heap.size 3 i0 (.int .i64 0) 1 8 Tryz.underlying144 hi hz0 hz1 hz2 (by rfl) (by decide) v2 q xs2 (by simp [Act.eval, Act.put]) jf.out B Ax ln cx (l.map fun k => Value.int .i64 k) (by simp [Act.eval, Act.put]) XJ.out (by intro u hu; obtain ⟨k, _, rfl⟩ := List.mem_map.1 hu; rfl) (by unfold maxLen; omega) (by omega) HB2.out.size ?_
   intro v3 w3 hown3 hgrow3 hx3
   have hb3 : Below w.heap.size w w3 := HB2.out.grown hgrow3 HB2.out.size (fun g hg => (jf.out.lt g hg).1)
   have hs3 := HS.out w3 hb3 (zL.out.grown hgrow3 (fun e => own_blk_ne jf.out zL.out (by decide) e.symm))
   have wH := qh hown3; have HB3 := qh hb3
   clear hx3 hown3 hgrow3 hb3
   refine hK.out _ _ ?_ (fun aJ => ?_)
   ·(try dsimp only)
    (first | exact ⟨hq1, hq2, hq3⟩ | exact hs3 | exact hs2)
   clear hK K ah; rename _ => ah
   refine tkH 14 (v := ?_) rfl (fun _ _ _ h => h) ?_ ?_
   rotate_left
   ·intro w hSw; (try dsimp only at hSw); (try simp only [tkN, gq3, gq1]); go_simp <;> with_reducible rfl
   try simp only [tkN, Act.put, gq3, gq1]
   refine wpAnyH_done (by kernel_rfl) ?_ _
   go_wp2
   go_ret
   exact ⟨_, _, rfl, by rw [Qq.out]; exact wH.out, HB3.out⟩
end Go.Proofs.YtmepaeahchiglaaGreatDoor
