/-
  layer 43: Check of laws, the program's layer 8. Conditions: a law that can be read.
-/
import Derived.Test.YtipfhamhiaeieaaDoorZcak
import Derived.Test.YtipfhamhiaeieaaDoorZcPkCk
import Derived.Test.YtipfhamhiaeieaaDoorZcah
namespace Go.Proofs.YtipfhamhiaeieaaDoor
open Go.RowKit Go.Lib

/-- Whether a law is valid. -/
def lawOk (l : Lw) : Bool := okName l.name && (patOk l.left && (patOk l.right && (decide (l.ifs.length ≤ 4) && (decide (l.outs.length ≤ 6) && (decide (0 < l.ifs.length + l.outs.length) && (decide (1 ≤ l.mode ∧ l.mode ≤ 3) && (l.ifs.all validS && l.outs.all (oOk l.ifs.length))))))))
def lawE (l : Lw) : Int := if lawOk l then 0 else 17
theorem lawE_no {l : Lw} (h : lawOk l = false) : lawE l = 17 := by unfold lawE; rw [h]; rfl
theorem lawE_yes {l : Lw} (h : lawOk l = true) : lawE l = 0 := by unfold lawE; rw [h]; rfl
set_option maxRecDepth 20000 in
set_option maxHeartbeats 4000000 in
theorem lawCheck_any (w : World) (B : Nat) (l : Lw) (cs : List Value) (hl : LawC w B l cs) (hB : B ≤ w.heap.size) (hnm : l.name.size ≤ maxLen) :
    Calls Tryd.prog 30 #[.agg cs.toArray] w fun e w' => e = .returned (.int .i64 (lawE l)) ∧ Below w.heap.size w w' := by
  obtain ⟨k1, s1, n1, lo1, hi1, A1, m1, c1, k2, s2, n2, lo2, hi2, A2, m2, c2, A3, c3, A4, c4, rfl, -, -, -, -, hs3, hs4, hm3, hm4⟩ := hl.form
  obtain ⟨res, hres⟩ : ∃ res, lawE l = res := ⟨_, rfl⟩
  rw [hres]
  have hno : lawOk l = false → res = 17 := fun h => by rw [← hres, lawE_no h]
  have hyes : lawOk l = true → res = 0 := fun h => by rw [← hres, lawE_yes h]
  clear hres
  obtain ⟨nm, left, right, ifs, outs, mode⟩ := l
  simp only at hs3 hs4 hm3 hm4 hnm ⊢
  unfold lawOk at hno hyes
  simp only at hno hyes
  have hbel0 : Below w.heap.size w ((w.alloc (.cells #[.string nm, .int .i64 k1, .int .u32 s1.1, .int .u32 s1.2, .bool n1, .int .i64 lo1, .int .i64 hi1, .slice A1 m1 c1, .int .i64 k2, .int .u32 s2.1, .int .u32 s2.2, .bool n2, .int .i64 lo2, .int .i64 hi2, .slice A2 m2 c2, .slice A3 ifs.length c3, .slice A4 outs.length c4, .int .i64 mode] 31)).alloc (.cells #[.int .i64 (ifs.length : Nat)] 3)) := ((Below.refl _ w).alloc (Nat.le_refl _) _).alloc (by simp) _
  have hl0 := hl.below (hbel0.mono hB)
  have hb0 : Blk ((w.alloc (.cells #[.string nm, .int .i64 k1, .int .u32 s1.1, .int .u32 s1.2, .bool n1, .int .i64 lo1, .int .i64 hi1, .slice A1 m1 c1, .int .i64 k2, .int .u32 s2.1, .int .u32 s2.2, .bool n2, .int .i64 lo2, .int .i64 hi2, .slice A2 m2 c2, .slice A3 ifs.length c3, .slice A4 outs.length c4, .int .i64 mode] 31)).alloc (.cells #[.int .i64 (ifs.length : Nat)] 3)) w.heap.size 31 #[.string nm, .int .i64 k1, .int .u32 s1.1, .int .u32 s1.2, .bool n1, .int .i64 lo1, .int .i64 hi1, .slice A1 m1 c1, .int .i64 k2, .int .u32 s2.1, .int .u32 s2.2, .bool n2, .int .i64 lo2, .int .i64 hi2, .slice A2 m2 c2, .slice A3 ifs.length c3, .slice A4 outs.length c4, .int .i64 mode] := (Blk.new w _ _).alloc _
  have hv0 : Blk ((w.alloc (.cells #[.string nm, .int .i64 k1, .int .u32 s1.1, .int .u32 s1.2, .bool n1, .int .i64 lo1, .int .i64 hi1, .slice A1 m1 c1, .int .i64 k2, .int .u32 s2.1, .int .u32 s2.2, .bool n2, .int .i64 lo2, .int .i64 hi2, .slice A2 m2 c2, .slice A3 ifs.length c3, .slice A4 outs.length c4, .int .i64 mode] 31)).alloc (.cells #[.int .i64 (ifs.length : Nat)] 3)) (w.heap.size + 1) 3 #[.int .i64 (ifs.length : Nat)] := by simpa using Blk.new (w.alloc (.cells #[.string nm, .int .i64 k1, .int .u32 s1.1, .int .u32 s1.2, .bool n1, .int .i64 lo1, .int .i64 hi1, .slice A1 m1 c1, .int .i64 k2, .int .u32 s2.1, .int .u32 s2.2, .bool n2, .int .i64 lo2, .int .i64 hi2, .slice A2 m2 c2, .slice A3 ifs.length c3, .slice A4 outs.length c4, .int .i64 mode] 31)) 3 #[.int .i64 (ifs.length : Nat)]
  obtain ⟨Z0, hZ0⟩ : ∃ Z, (w.alloc (.cells #[.string nm, .int .i64 k1, .int .u32 s1.1, .int .u32 s1.2, .bool n1, .int .i64 lo1, .int .i64 hi1, .slice A1 m1 c1, .int .i64 k2, .int .u32 s2.1, .int .u32 s2.2, .bool n2, .int .i64 lo2, .int .i64 hi2, .slice A2 m2 c2, .slice A3 ifs.length c3, .slice A4 outs.length c4, .int .i64 mode] 31)).alloc (.cells #[.int .i64 (ifs.length : Nat)] 3) = Z := ⟨_, rfl⟩
  rw [hZ0] at hbel0 hl0 hb0 hv0
  have HZ0 := Lib.hid hZ0
  have hc1 := named_any nm Z0 hnm
  have HNO := Lib.hid hno; have HYES := Lib.hid hyes; have HS3 := Lib.hid hs3; have HS4 := Lib.hid hs4
  have HB0 := Lib.hid hb0; have HV0 := Lib.hid hv0; have HL0 := Lib.hid hl0; have HE0 := Lib.hid hbel0
  clear hZ0 hno hyes hs3 hs4 hb0 hv0 hl0 hbel0 hl
  unfold maxLen at hm3 hm4
  show Calls _ _ #[.agg #[.string nm, .int .i64 k1, .int .u32 s1.1, .int .u32 s1.2, .bool n1, .int .i64 lo1, .int .i64 hi1, .slice A1 m1 c1, .int .i64 k2, .int .u32 s2.1, .int .u32 s2.2, .bool n2, .int .i64 lo2, .int .i64 hi2, .slice A2 m2 c2, .slice A3 ifs.length c3, .slice A4 outs.length c4, .int .i64 mode]] _ _
  go_enter Tryd.func30, Tryd.ntmps30
  go_wp2_with fail
  rw [HZ0.out]
  clear HZ0
  cases hok1 : okName nm
  · rw [hok1] at hc1
    refine hc1.mono ?_
    rintro e w1 ⟨rfl, hb1⟩
    have h17 := HNO.out (by rw [hok1]; rfl)
    have HB1 := Lib.hid (HE0.out.trans (hb1.mono HE0.out.size))
    clear hb1 hok1 hc1
    subst h17
    go_wp2
    go_ret
    exact ⟨rfl, HB1.out⟩
  rw [hok1] at hc1
  refine hc1.mono ?_
  rintro e w1 ⟨rfl, hb1⟩
  have HOK1 := Lib.hid hok1
  clear hok1 hc1
  have hbx := HB0.out.below hb1 HB0.out.lt
  have hvx := HV0.out.below hb1 HV0.out.lt
  have hlx := HL0.out.below (hb1.mono (Nat.le_trans hB HE0.out.size))
  have hex := HE0.out.trans (hb1.mono HE0.out.size)
  obtain ⟨y0, y1, y2, y3, y4, y5, y6, y7, y8, y9, y10, y11, y12, y13, y14, y15, y16, y17⟩ := hbx.eighteen
  have hvc := hvx.cell 0
  simp only [List.getElem?_toArray, List.getElem?_cons_zero] at hvc
  obtain ⟨hp1, hp2, hr3, hr4⟩ := law_parts hlx
  have HB1 := Lib.hid hbx; have HV1 := Lib.hid hvx; have HL1 := Lib.hid hlx; have HE1 := Lib.hid hex
  clear hb1 hbx hvx hlx hex
  have hcp := patCheck_any left k1 s1 n1 lo1 hi1 A1 m1 c1 B w1 hp1 (Nat.le_trans hB HE1.out.size)
  clear hp1 hp2 hr3 hr4
  have HCP := Lib.hid hcp
  clear hcp
  go_wp2_with fail
  refine HCP.out.mono ?_
  rintro e w2 ⟨x, rfl, hx, hb1⟩
  clear HCP
  by_cases hx0 : x = 0
  case neg =>
    have hok : patOk left = false := by
      cases h : patOk left with
      | false => rfl
      | true => exact absurd (hx.2 h) hx0
    have h17 := HNO.out (by rw [HOK1.out, hok]; simp)
    have hxe : (x != 0) = true := by simpa using hx0
    have HB9 := Lib.hid (HE1.out.trans (hb1.mono HE1.out.size))
    clear hb1 hok hx hx0
    subst h17
    go_wp2
    go_ret
    exact ⟨rfl, HB9.out⟩
  have HOK2 : Hid (patOk left = true) := Lib.hid (hx.1 hx0)
  subst hx0
  clear hx
  have hbx := HB1.out.below hb1 HB1.out.lt
  have hvx := HV1.out.below hb1 HV1.out.lt
  have hlx := HL1.out.below (hb1.mono (Nat.le_trans hB HE1.out.size))
  have hex := HE1.out.trans (hb1.mono HE1.out.size)
  obtain ⟨y0, y1, y2, y3, y4, y5, y6, y7, y8, y9, y10, y11, y12, y13, y14, y15, y16, y17⟩ := hbx.eighteen
  have hvc := hvx.cell 0
  simp only [List.getElem?_toArray, List.getElem?_cons_zero] at hvc
  obtain ⟨hp1, hp2, hr3, hr4⟩ := law_parts hlx
  have HB2 := Lib.hid hbx; have HV2 := Lib.hid hvx; have HL2 := Lib.hid hlx; have HE2 := Lib.hid hex
  clear hb1 hbx hvx hlx hex
  have hcp := patCheck_any right k2 s2 n2 lo2 hi2 A2 m2 c2 B w2 hp2 (Nat.le_trans hB HE2.out.size)
  clear hp1 hp2 hr3 hr4
  have HCP := Lib.hid hcp
  clear hcp
  go_wp2_with fail
  refine HCP.out.mono ?_
  rintro e w3 ⟨x, rfl, hx, hb1⟩
  clear HCP
  by_cases hx0 : x = 0
  case neg =>
    have hok : patOk right = false := by
      cases h : patOk right with
      | false => rfl
      | true => exact absurd (hx.2 h) hx0
    have h17 := HNO.out (by rw [HOK1.out, HOK2.out, hok]; simp)
    have hxe : (x != 0) = true := by simpa using hx0
    have HB9 := Lib.hid (HE2.out.trans (hb1.mono HE2.out.size))
    clear hb1 hok hx hx0
    subst h17
    go_wp2
    go_ret
    exact ⟨rfl, HB9.out⟩
  have HOK3 : Hid (patOk right = true) := Lib.hid (hx.1 hx0)
  subst hx0
  clear hx
  have hbx := HB2.out.below hb1 HB2.out.lt
  have hvx := HV2.out.below hb1 HV2.out.lt
  have hlx := HL2.out.below (hb1.mono (Nat.le_trans hB HE2.out.size))
  have hex := HE2.out.trans (hb1.mono HE2.out.size)
  obtain ⟨y0, y1, y2, y3, y4, y5, y6, y7, y8, y9, y10, y11, y12, y13, y14, y15, y16, y17⟩ := hbx.eighteen
  have hvc := hvx.cell 0
  simp only [List.getElem?_toArray, List.getElem?_cons_zero] at hvc
  obtain ⟨hp1, hp2, hr3, hr4⟩ := law_parts hlx
  have HB3 := Lib.hid hbx; have HV3 := Lib.hid hvx; have HL3 := Lib.hid hlx; have HE3 := Lib.hid hex
  clear hb1 hbx hvx hlx hex
  clear hp1 hp2
  by_cases g3 : ifs.length ≤ 4
  case neg =>
    have h17 := HNO.out (by rw [HOK1.out, HOK2.out, HOK3.out, decide_eq_false (show ¬ (ifs.length ≤ 4) from g3)]; simp)
    have hI : (4 : Int) < (ifs.length : Int) := by omega
    clear hr3 hr4
    subst h17
    go_wp2_with fail
    go_ret
    exact ⟨rfl, HE3.out⟩
  have hI3 : ¬ (4 : Int) < (ifs.length : Int) := by omega
  by_cases g4 : outs.length ≤ 6
  case neg =>
    have h17 := HNO.out (by rw [HOK1.out, HOK2.out, HOK3.out, decide_eq_true (show ifs.length ≤ 4 from g3), decide_eq_false (show ¬ (outs.length ≤ 6) from g4)]; simp)
    have hI : (6 : Int) < (outs.length : Int) := by omega
    clear hr3 hr4
    subst h17
    go_wp2_with fail
    go_ret
    exact ⟨rfl, HE3.out⟩
  have hI4 : ¬ (6 : Int) < (outs.length : Int) := by omega
  by_cases g5 : 0 < ifs.length + outs.length
  case neg =>
    have h17 := HNO.out (by rw [HOK1.out, HOK2.out, HOK3.out, decide_eq_true (show ifs.length ≤ 4 from g3), decide_eq_true (show outs.length ≤ 6 from g4), decide_eq_false (show ¬ (0 < ifs.length + outs.length) from g5)]; simp)
    have hI : ((ifs.length : Int) + (outs.length : Int) == 0) = true := by rw [beq_iff_eq]; omega
    clear hr3 hr4
    subst h17
    go_wp2_with fail
    go_ret
    exact ⟨rfl, HE3.out⟩
  have hI5 : ((ifs.length : Int) + (outs.length : Int) == 0) = false := by rw [beq_eq_false_iff_ne]; omega
  by_cases g6 : 1 ≤ mode ∧ mode ≤ 3
  case neg =>
    have h17 := HNO.out (by rw [HOK1.out, HOK2.out, HOK3.out, decide_eq_true (show ifs.length ≤ 4 from g3), decide_eq_true (show outs.length ≤ 6 from g4), decide_eq_true (show 0 < ifs.length + outs.length from g5), decide_eq_false (show ¬ (1 ≤ mode ∧ mode ≤ 3) from g6)]; simp)
    clear hr3 hr4
    subst h17
    by_cases g7 : mode < 1
    · have g7d : decide (mode < 1) = true := decide_eq_true g7
      clear g6
      go_wp2_with fail
      go_ret
      exact ⟨rfl, HE3.out⟩
    · have g7d : decide (mode < 1) = false := decide_eq_false g7
      have g8 : (3 : Int) < mode := by omega
      clear g6
      go_wp2_with fail
      go_ret
      exact ⟨rfl, HE3.out⟩
  have hI6 : ¬ mode < 1 := by omega
  have hI6d : decide (mode < 1) = false := decide_eq_false hI6
  have hI7 : ¬ (3 : Int) < mode := by omega
  have hI7d : decide ((3 : Int) < mode) = false := decide_eq_false hI7
  have HG : Hid ((1 ≤ mode ∧ mode ≤ 3) ∧ True) := Lib.hid ⟨g6, trivial⟩
  clear g6
  have hcs := contS_any A3 ifs.length c3 B ifs w3 hr3 (Nat.le_trans hB HE3.out.size) (by unfold maxLen; omega) HS3.out
  clear hr3 hr4
  go_wp2_with fail
  cases hok7 : ifs.all validS
  · rw [hok7] at hcs
    refine hcs.mono ?_
    rintro e w4 ⟨rfl, hb1⟩
    have h17 := HNO.out (by rw [HOK1.out, HOK2.out, HOK3.out, decide_eq_true (show ifs.length ≤ 4 from g3), decide_eq_true (show outs.length ≤ 6 from g4), decide_eq_true (show 0 < ifs.length + outs.length from g5), decide_eq_true (show 1 ≤ mode ∧ mode ≤ 3 from HG.out.1), hok7]; simp)
    have HB9 := Lib.hid (HE3.out.trans (hb1.mono HE3.out.size))
    clear hb1 hok7 hcs
    subst h17
    go_wp2_with fail
    go_ret
    exact ⟨rfl, HB9.out⟩
  rw [hok7] at hcs
  refine hcs.mono ?_
  rintro e w4 ⟨rfl, hb1⟩
  have HOK7 := Lib.hid hok7
  clear hok7 hcs
  have hbx := HB3.out.below hb1 HB3.out.lt
  have hvx := HV3.out.below hb1 HV3.out.lt
  have hlx := HL3.out.below (hb1.mono (Nat.le_trans hB HE3.out.size))
  have hex := HE3.out.trans (hb1.mono HE3.out.size)
  obtain ⟨y0, y1, y2, y3, y4, y5, y6, y7, y8, y9, y10, y11, y12, y13, y14, y15, y16, y17⟩ := hbx.eighteen
  have hvc := hvx.cell 0
  simp only [List.getElem?_toArray, List.getElem?_cons_zero] at hvc
  obtain ⟨hp1, hp2, hr3, hr4⟩ := law_parts hlx
  have HB4 := Lib.hid hbx; have HV4 := Lib.hid hvx; have HL4 := Lib.hid hlx; have HE4 := Lib.hid hex
  clear hb1 hbx hvx hlx hex
  have hco := contO_any A4 outs.length c4 B outs w4 ifs.length (w.heap.size + 1) HV4.out hr4 (Nat.le_trans hB HE4.out.size) (by unfold maxLen; omega) HS4.out
  clear hp1 hp2 hr3 hr4
  go_wp2_with fail
  cases hok8 : outs.all (oOk ifs.length)
  · rw [hok8] at hco
    refine hco.mono ?_
    rintro e w5 ⟨rfl, hb1⟩
    have h17 := HNO.out (by rw [HOK1.out, HOK2.out, HOK3.out, decide_eq_true (show ifs.length ≤ 4 from g3), decide_eq_true (show outs.length ≤ 6 from g4), decide_eq_true (show 0 < ifs.length + outs.length from g5), decide_eq_true (show 1 ≤ mode ∧ mode ≤ 3 from HG.out.1), HOK7.out, hok8]; simp)
    have HB9 := Lib.hid (HE4.out.trans (hb1.mono HE4.out.size))
    clear hb1 hok8 hco
    subst h17
    go_wp2_with fail
    go_ret
    exact ⟨rfl, HB9.out⟩
  rw [hok8] at hco
  refine hco.mono ?_
  rintro e w5 ⟨rfl, hb1⟩
  have h0 := HYES.out (by rw [HOK1.out, HOK2.out, HOK3.out, decide_eq_true (show ifs.length ≤ 4 from g3), decide_eq_true (show outs.length ≤ 6 from g4), decide_eq_true (show 0 < ifs.length + outs.length from g5), decide_eq_true (show 1 ≤ mode ∧ mode ≤ 3 from HG.out.1), HOK7.out, hok8]; rfl)
  have HB9 := Lib.hid (HE4.out.trans (hb1.mono HE4.out.size))
  clear hb1 hok8 hco
  subst h0
  go_wp2_with fail
  go_ret
  exact ⟨rfl, HB9.out⟩
end Go.Proofs.YtipfhamhiaeieaaDoor
