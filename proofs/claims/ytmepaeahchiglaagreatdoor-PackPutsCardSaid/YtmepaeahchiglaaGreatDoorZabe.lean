/-
  layer 43's gate: Light of histories. Conditions: what can be read.
-/
import Derived.Test.YtmepaeahchiglaaGreatDoorZaPjLb
namespace Go.Proofs.YtmepaeahchiglaaGreatDoor
open Go.RowKit Go.Lib

/-- What a gate answers: yes only for short lists. -/
def LightP (w : World) (n : Nat) (on : List (List Int)) (e : Ending) (w' : World) : Prop := (∃ b, e = .returned (.bool b) ∧ (b = true → n ≤ 70 ∧ ∀ l ∈ on, l.length ≤ 70)) ∧ Below w.heap.size w w'
set_option linter.unusedSimpArgs false in
set_option linter.unusedVariables false in
set_option maxRecDepth 20000 in
set_option maxHeartbeats 8000000 in
theorem light25_any (v4 v5 v6 : Value) (B : Nat) (t : List Nd) (laws : List Lw) (on : List (List Int)) (w : World) (h4 : SlC NdC 2 w B t v4) (h5 : SlC LawC 18 w B laws v5) (h6 : SlC OnC 1 w B on v6) (hB : B ≤ w.heap.size) :
    Calls Tryz.prog 27 #[.agg #[v4, v5, v6]] w (LightP w t.length on) := by
  obtain ⟨A4, m4, c4, rfl, e4⟩ := h4.form
  obtain ⟨A5, m5, c5, rfl, e5⟩ := h5.form
  obtain ⟨A6, m6, c6, rfl, e6⟩ := h6.form
  have hm5 := h5.len.2
  unfold maxLen at hm5
  have hb0 := (Below.refl w.heap.size w).alloc (Nat.le_refl _) (.cells #[.slice A4 m4 c4, .slice A5 m5 c5, .slice A6 m6 c6] 29)
  have hk0 := Blk.new w 29 #[.slice A4 m4 c4, .slice A5 m5 c5, .slice A6 m6 c6]
  have hkp := fun (W : World) (hW : Below w.heap.size w W) => fun (p : Addr) (hp : p.block < B) => hW.cell (p := p) (Nat.lt_of_lt_of_le hp hB)
  have HKP := Lib.hid hkp; have H5 := Lib.hid h5; have H6 := Lib.hid h6; have E5 := Lib.hid e5; have E6 := Lib.hid e6; have E4 := Lib.hid e4; have HB0 := Lib.hid hb0; have HK0 := Lib.hid hk0
  have hno : ∀ (W : World), Below w.heap.size w W → LightP w t.length on (.returned (.bool false)) W := fun W hW => ⟨⟨false, rfl, fun h => by cases h⟩, hW⟩
  have HNO := Lib.hid hno
  clear h4 h5 h6 e4 e5 e6 hb0 hk0 hkp hno
  go_enter Tryz.func27, Tryz.ntmps27
  by_cases h1 : 70 < m4
  · have h1I : (70 : Int) < (m4 : Int) := by omega
    go_wp2
    go_ret
    exact HNO.out _ HB0.out
  have h1I : ¬ (70 : Int) < (m4 : Int) := by omega
  by_cases h2 : 70 < m5
  · have h2I : (70 : Int) < (m5 : Int) := by omega
    go_wp2
    go_ret
    exact HNO.out _ HB0.out
  have h2I : ¬ (70 : Int) < (m5 : Int) := by omega
  by_cases h3 : 70 < m6
  · have h3I : (70 : Int) < (m6 : Int) := by omega
    go_wp2
    go_ret
    exact HNO.out _ HB0.out
  have h3I : ¬ (70 : Int) < (m6 : Int) := by omega
  clear h1 h2 h3
  go_wp2
  go_loopw [3] (fun i wr => ∃ k : Nat, k ≤ m6 ∧ i = .int .i64 k ∧ (∀ l ∈ on.take k, l.length ≤ 70) ∧ Blk wr w.heap.size 29 #[.slice A4 m4 c4, .slice A5 m5 c5, .slice A6 m6 c6] ∧ Below w.heap.size w wr) (fun i _ => m6 - (RowKit.intOf i).toNat)
  case atStart => exact ⟨0, by omega, rfl, by simp, HK0.out, HB0.out⟩
  case round =>
    obtain ⟨k, hk, rfl, hall, hbk, hbw⟩ := hrel
    have HALL := Lib.hid hall; have HBK := Lib.hid hbk; have HBW := Lib.hid hbw
    obtain ⟨V, hV⟩ : ∃ W, W = wr := ⟨_, rfl⟩
    subst hV
    clear hall hbk hbw
    have g0 := HBK.out.cell 0; have g1 := HBK.out.cell 1; have g2 := HBK.out.cell 2
    simp only [List.getElem?_toArray, List.getElem?_cons_zero, List.getElem?_cons_succ] at g0 g1 g2
    by_cases hlt : k < m6
    · have hkl : k < on.length := by have := E6.out; omega
      have hkI : (k : Int) < (m6 : Int) := by omega
      have hk0 : (0 : Int) ≤ (k : Int) := by omega
      obtain ⟨ad, cs, hA, had, hP, hcc⟩ := slC_cells on_len (SlC.plain (HKP.out V HBW.out) H6.out (fun _ _ h => OnC.keep (HKP.out V HBW.out) h)) hkl
      subst hA
      have htk := List.take_succ_eq_append_getElem hkl
      generalize on[k] = x at *
      obtain ⟨vx, rfl, hvx⟩ := hP
      obtain ⟨Ax, nx, cx, rfl, ex⟩ := hvx.form
      have e6 := hcc 0 _ rfl
      rw [Nat.mul_one, Nat.add_zero] at e6
      have HTK := Lib.hid htk; have HEX := Lib.hid ex
      clear htk ex hvx hcc
      by_cases h70 : 70 < nx
      · have h70I : (70 : Int) < (nx : Int) := by omega
        go_wp2
        go_ret
        exact HNO.out _ HBW.out
      · have h70I : ¬ (70 : Int) < (nx : Int) := by omega
        have hnew : ∀ l ∈ on.take (k + 1), l.length ≤ 70 := by
          rw [HTK.out]
          intro l hl
          rcases List.mem_append.1 hl with h | h
          · exact HALL.out l h
          · rw [List.mem_singleton.1 h, ← HEX.out]; omega
        have HNEW := Lib.hid hnew
        clear hnew h70
        go_wp2
        go_roundw
        case rel => exact ⟨k + 1, by omega, by go_num, HNEW.out, HBK.out, HBW.out⟩
        case measure => simp [RowKit.intOf]; omega
    · obtain rfl : m6 = k := by omega
      have hall := HALL.out
      rw [List.take_of_length_le (by rw [E6.out]; exact Nat.le_refl _)] at hall
      have HALL2 := Lib.hid hall
      have HBK0 := HBK; have HBW0 := HBW
      clear hall hlt HALL HBK HBW
      go_wp2
      go_loopw [4] (fun i wr => ∃ k : Nat, k ≤ m5 ∧ i = .int .i64 k ∧ Blk wr w.heap.size 29 #[.slice A4 m4 c4, .slice A5 m5 c5, .slice A6 m6 c6] ∧ Below w.heap.size w wr) (fun i _ => m5 - (RowKit.intOf i).toNat)
      case atStart => exact ⟨0, by omega, rfl, HBK0.out, HBW0.out⟩
      case round =>
        obtain ⟨k, hk, rfl, hbk, hbw⟩ := hrel
        have HBK := Lib.hid hbk; have HBW := Lib.hid hbw
        obtain ⟨V, hV⟩ : ∃ W, W = wr := ⟨_, rfl⟩
        subst hV
        clear hbk hbw g0 g1 g2
        have g0 := HBK.out.cell 0; have g1 := HBK.out.cell 1; have g2 := HBK.out.cell 2
        simp only [List.getElem?_toArray, List.getElem?_cons_zero, List.getElem?_cons_succ] at g0 g1 g2
        by_cases hlt : k < m5
        case neg =>
          obtain rfl : m5 = k := by omega
          go_wp2
          go_ret
          exact ⟨⟨true, rfl, fun _ => ⟨by rw [← E4.out]; omega, HALL2.out⟩⟩, HBW.out⟩
        have hkl : k < laws.length := by have := E5.out; omega
        have hkI : (k : Int) < (m5 : Int) := by omega
        have hk0 : (0 : Int) ≤ (k : Int) := by omega
        obtain ⟨ad, cs, hA, had, hP, hcc⟩ := slC_cells (by intro x cs h; exact law_len h) (SlC.plain (HKP.out V HBW.out) H5.out (fun _ _ h => h.keep (HKP.out V HBW.out))) hkl
        subst hA
        have h18 := law_len hP
        have hone := law_one_ hP
        have hcell : ∀ j u, cs[j]? = some u → V.cell? ((ad.add (k * 18)).add j) = some u := fun j u hu => by rw [add_add]; exact hcc j u hu
        have hsub : SlC LawC 18 V B [laws[k]] (.slice (some (ad.add (k * 18))) 1 (c5 - k)) := ⟨_, _, cs, rfl, ⟨by simp; omega, by unfold maxLen; omega⟩, ⟨by rw [h18]; rfl, fun _ => ⟨_, rfl, by rw [add_block_]; exact had, hcell⟩⟩, ⟨cs, [], by simp, hP, rfl⟩⟩
        have hreps := fun (W : World) (hW : Below V.heap.size V W) => reps_any (some (ad.add (k * 18))) 1 (c5 - k) B [laws[k]] W (SlC.plain (fun p hp => hW.cell (p := p) (by have := HBW.out.size; omega)) hsub (fun _ _ h => h.keep (fun p hp => hW.cell (p := p) (by have := HBW.out.size; omega)))) (by have := HBW.out.size; have := hW.size; omega)
        generalize laws[k] = x at *
        obtain ⟨k1, s1, n1, lo1, hi1, A1, m1, c1, k2, s2, n2, lo2, hi2, A2, m2, c2, A3, c3, A4', c4', hcs, hp1, hp2, -⟩ := hP.form
        obtain ⟨i3, hi3⟩ : ∃ i, x.ifs.length = i := ⟨_, rfl⟩
        obtain ⟨i4, hi4⟩ : ∃ i, x.outs.length = i := ⟨_, rfl⟩
        rw [hi3, hi4] at hcs
        have hcs' : ∀ j : Nat, cs[j]? = (lawL x.name k1 s1 n1 lo1 hi1 A1 m1 c1 k2 s2 n2 lo2 hi2 A2 m2 c2 A3 i3 c3 A4' i4 c4' x.mode)[j]? := fun j => by rw [hcs]
        have hblk := Blk.new V 62 cs.toArray
        have hz := Blk.new V 62 zlaw.toArray
        have hset := setRow_alloc V 62 zlaw.toArray cs.toArray
        have hbx := HBW.out.alloc HBW.out.size (.cells cs.toArray 62)
        have hkx := HBK.out.alloc (.cells cs.toArray 62)
        have hbv := (Below.refl V.heap.size V).alloc (Nat.le_refl _) (.cells cs.toArray 62)
        have hc1 := hreps _ hbv
        have hsz1 := fun (W : World) (hW : Below V.heap.size V W) => refSize_any x.left k1 s1 n1 lo1 hi1 A1 m1 c1 W B (hp1.below (hW.mono (by have := HBW.out.size; omega))) (by have := HBW.out.size; have := hW.size; omega)
        have hsz2 := fun (W : World) (hW : Below V.heap.size V W) => refSize_any x.right k2 s2 n2 lo2 hi2 A2 m2 c2 W B (hp2.below (hW.mono (by have := HBW.out.size; omega))) (by have := HBW.out.size; have := hW.size; omega)
        obtain ⟨q1, hq1⟩ : ∃ q, min (ptSize x.left) 41 = q := ⟨_, rfl⟩
        obtain ⟨q2, hq2⟩ : ∃ q, min (ptSize x.right) 41 = q := ⟨_, rfl⟩
        have hq1' : q1 ≤ 41 := by omega
        have hq2' : q2 ≤ 41 := by omega
        rw [hq1] at hsz1
        rw [hq2] at hsz2
        have gk := hkx.cell 1
        simp only [List.getElem?_toArray, List.getElem?_cons_zero, List.getElem?_cons_succ] at gk
        have h18' : (V.alloc (.cells cs.toArray 62)).heap.size = V.heap.size + 1 := World.size_alloc _ _
        have HBLK := Lib.hid hblk; have HZ := Lib.hid hz; have HSET := Lib.hid hset; have H18 := Lib.hid h18; have HONE := Lib.hid hone; have HCELL := Lib.hid hcell; have HBX := Lib.hid hbx; have HKX := Lib.hid hkx; have HBV := Lib.hid hbv; have HC1 := Lib.hid hc1; have HSZ1 := Lib.hid hsz1; have HSZ2 := Lib.hid hsz2; have HCS := Lib.hid hcs'
        obtain ⟨V1, hV1⟩ : ∃ W, V.alloc (.cells cs.toArray 62) = W := ⟨_, rfl⟩
        have HV1 := Lib.hid hV1
        have gk1 := gk
        rw [hV1] at gk1
        have hkc : (k : Int) + 1 ≤ (c5 : Int) := by omega
        clear hblk hz hset h18 hone hcell hbx hkx hbv hc1 hsz1 hsz2 hcs' hcc hreps hsub hP hp1 hp2 hi3 hi4 hq1 hq2 hcs hV1 h18'
        go_wp2_with (first | (refine law_load_at rfl _ rfl _ rfl cs H18.out HCELL.out ?_; simp only [Act.put, List.setIfInBounds_toArray, List.set_cons_zero, List.set_cons_succ]) | (refine law_store_ rfl _ _ rfl _ rfl cs zlaw rfl H18.out HONE.out HZ.out rfl ?_; rw [HSET.out]; simp only [Act.put, List.setIfInBounds_toArray, List.set_cons_zero, List.set_cons_succ]))
        refine HC1.out.mono ?_
        rintro e w2 ⟨rr, rfl, hb2⟩
        have hszV : V.heap.size < (V.alloc (.cells cs.toArray 62)).heap.size := by rw [World.size_alloc]; omega
        have HBV2 := Lib.hid (HBV.out.trans (hb2.mono HBV.out.size)); have HB2 := Lib.hid (HBX.out.trans (hb2.mono HBX.out.size)); have HK2 := Lib.hid (HKX.out.below hb2 HKX.out.lt); have HL2 := Lib.hid (HBLK.out.below hb2 hszV)
        clear hb2 gk gk1 g0 g1 g2
        have b1 : w2.cell? ⟨V.heap.size, 1, none⟩ = some (.int .i64 k1) := by rw [HL2.out.cell 1, List.getElem?_toArray, HCS.out]; rfl
        have b2 : w2.cell? ⟨V.heap.size, 2, none⟩ = some (.int .u32 s1.1) := by rw [HL2.out.cell 2, List.getElem?_toArray, HCS.out]; rfl
        have b3 : w2.cell? ⟨V.heap.size, 3, none⟩ = some (.int .u32 s1.2) := by rw [HL2.out.cell 3, List.getElem?_toArray, HCS.out]; rfl
        have b4 : w2.cell? ⟨V.heap.size, 4, none⟩ = some (.bool n1) := by rw [HL2.out.cell 4, List.getElem?_toArray, HCS.out]; rfl
        have b5 : w2.cell? ⟨V.heap.size, 5, none⟩ = some (.int .i64 lo1) := by rw [HL2.out.cell 5, List.getElem?_toArray, HCS.out]; rfl
        have b6 : w2.cell? ⟨V.heap.size, 6, none⟩ = some (.int .i64 hi1) := by rw [HL2.out.cell 6, List.getElem?_toArray, HCS.out]; rfl
        have b7 : w2.cell? ⟨V.heap.size, 7, none⟩ = some (.slice A1 m1 c1) := by rw [HL2.out.cell 7, List.getElem?_toArray, HCS.out]; rfl
        have b8 : w2.cell? ⟨V.heap.size, 8, none⟩ = some (.int .i64 k2) := by rw [HL2.out.cell 8, List.getElem?_toArray, HCS.out]; rfl
        have b9 : w2.cell? ⟨V.heap.size, 9, none⟩ = some (.int .u32 s2.1) := by rw [HL2.out.cell 9, List.getElem?_toArray, HCS.out]; rfl
        have b10 : w2.cell? ⟨V.heap.size, 10, none⟩ = some (.int .u32 s2.2) := by rw [HL2.out.cell 10, List.getElem?_toArray, HCS.out]; rfl
        have b11 : w2.cell? ⟨V.heap.size, 11, none⟩ = some (.bool n2) := by rw [HL2.out.cell 11, List.getElem?_toArray, HCS.out]; rfl
        have b12 : w2.cell? ⟨V.heap.size, 12, none⟩ = some (.int .i64 lo2) := by rw [HL2.out.cell 12, List.getElem?_toArray, HCS.out]; rfl
        have b13 : w2.cell? ⟨V.heap.size, 13, none⟩ = some (.int .i64 hi2) := by rw [HL2.out.cell 13, List.getElem?_toArray, HCS.out]; rfl
        have b14 : w2.cell? ⟨V.heap.size, 14, none⟩ = some (.slice A2 m2 c2) := by rw [HL2.out.cell 14, List.getElem?_toArray, HCS.out]; rfl
        have b15 : w2.cell? ⟨V.heap.size, 15, none⟩ = some (.slice A3 i3 c3) := by rw [HL2.out.cell 15, List.getElem?_toArray, HCS.out]; rfl
        have b16 : w2.cell? ⟨V.heap.size, 16, none⟩ = some (.slice A4' i4 c4') := by rw [HL2.out.cell 16, List.getElem?_toArray, HCS.out]; rfl
        by_cases hr4 : 4 < rr
        · have hr4I : (4 : Int) < rr := hr4
          go_wp2
          go_ret
          exact HNO.out _ HB2.out
        have hr4I : ¬ (4 : Int) < rr := hr4
        by_cases hi3 : 20 < i3
        · have hi3I : (20 : Int) < (i3 : Int) := by omega
          go_wp2
          go_ret
          exact HNO.out _ HB2.out
        have hi3I : ¬ (20 : Int) < (i3 : Int) := by omega
        by_cases hi4 : 20 < i4
        · have hi4I : (20 : Int) < (i4 : Int) := by omega
          go_wp2
          go_ret
          exact HNO.out _ HB2.out
        have hi4I : ¬ (20 : Int) < (i4 : Int) := by omega
        have hc2 := HSZ1.out w2 HBV2.out
        have HC2 := Lib.hid hc2
        clear hc2 hi3 hi4 hr4
        go_wp2_with fail
        refine HC2.out.mono ?_
        rintro e w3 ⟨rfl, hb3⟩
        have HBV3 := Lib.hid (HBV2.out.trans (hb3.mono HBV2.out.size)); have HB3 := Lib.hid (HB2.out.trans (hb3.mono HB2.out.size)); have HK3 := Lib.hid (HK2.out.below hb3 HK2.out.lt); have HL3 := Lib.hid (HL2.out.below hb3 HL2.out.lt)
        clear hb3 b1 b2 b3 b4 b5 b6 b7 b8 b9 b10 b11 b12 b13 b14 b15 b16
        have b1 : w3.cell? ⟨V.heap.size, 1, none⟩ = some (.int .i64 k1) := by rw [HL3.out.cell 1, List.getElem?_toArray, HCS.out]; rfl
        have b2 : w3.cell? ⟨V.heap.size, 2, none⟩ = some (.int .u32 s1.1) := by rw [HL3.out.cell 2, List.getElem?_toArray, HCS.out]; rfl
        have b3 : w3.cell? ⟨V.heap.size, 3, none⟩ = some (.int .u32 s1.2) := by rw [HL3.out.cell 3, List.getElem?_toArray, HCS.out]; rfl
        have b4 : w3.cell? ⟨V.heap.size, 4, none⟩ = some (.bool n1) := by rw [HL3.out.cell 4, List.getElem?_toArray, HCS.out]; rfl
        have b5 : w3.cell? ⟨V.heap.size, 5, none⟩ = some (.int .i64 lo1) := by rw [HL3.out.cell 5, List.getElem?_toArray, HCS.out]; rfl
        have b6 : w3.cell? ⟨V.heap.size, 6, none⟩ = some (.int .i64 hi1) := by rw [HL3.out.cell 6, List.getElem?_toArray, HCS.out]; rfl
        have b7 : w3.cell? ⟨V.heap.size, 7, none⟩ = some (.slice A1 m1 c1) := by rw [HL3.out.cell 7, List.getElem?_toArray, HCS.out]; rfl
        have b8 : w3.cell? ⟨V.heap.size, 8, none⟩ = some (.int .i64 k2) := by rw [HL3.out.cell 8, List.getElem?_toArray, HCS.out]; rfl
        have b9 : w3.cell? ⟨V.heap.size, 9, none⟩ = some (.int .u32 s2.1) := by rw [HL3.out.cell 9, List.getElem?_toArray, HCS.out]; rfl
        have b10 : w3.cell? ⟨V.heap.size, 10, none⟩ = some (.int .u32 s2.2) := by rw [HL3.out.cell 10, List.getElem?_toArray, HCS.out]; rfl
        have b11 : w3.cell? ⟨V.heap.size, 11, none⟩ = some (.bool n2) := by rw [HL3.out.cell 11, List.getElem?_toArray, HCS.out]; rfl
        have b12 : w3.cell? ⟨V.heap.size, 12, none⟩ = some (.int .i64 lo2) := by rw [HL3.out.cell 12, List.getElem?_toArray, HCS.out]; rfl
        have b13 : w3.cell? ⟨V.heap.size, 13, none⟩ = some (.int .i64 hi2) := by rw [HL3.out.cell 13, List.getElem?_toArray, HCS.out]; rfl
        have b14 : w3.cell? ⟨V.heap.size, 14, none⟩ = some (.slice A2 m2 c2) := by rw [HL3.out.cell 14, List.getElem?_toArray, HCS.out]; rfl
        have b15 : w3.cell? ⟨V.heap.size, 15, none⟩ = some (.slice A3 i3 c3) := by rw [HL3.out.cell 15, List.getElem?_toArray, HCS.out]; rfl
        have b16 : w3.cell? ⟨V.heap.size, 16, none⟩ = some (.slice A4' i4 c4') := by rw [HL3.out.cell 16, List.getElem?_toArray, HCS.out]; rfl
        have hq1I : ¬ (41 : Int) < (q1 : Int) := by omega
        have hc3 := HSZ2.out w3 HBV3.out
        have HC3 := Lib.hid hc3
        clear hc3
        go_wp2_with fail
        refine HC3.out.mono ?_
        rintro e w4 ⟨rfl, hb4⟩
        have HB4 := Lib.hid (HB3.out.trans (hb4.mono HB3.out.size)); have HK4 := Lib.hid (HK3.out.below hb4 HK3.out.lt)
        have hq2I : ¬ (41 : Int) < (q2 : Int) := by omega
        clear hb4 b1 b2 b3 b4 b5 b6 b7 b8 b9 b10 b11 b12 b13 b14 b15 b16
        go_wp2
        go_roundw
        case rel => exact ⟨k + 1, by omega, by go_num, HK4.out, HB4.out⟩
        case measure => simp [RowKit.intOf]; omega
end Go.Proofs.YtmepaeahchiglaaGreatDoor
namespace Go.Proofs.YtmepaeahchiglaaGreatDoor
open Go.RowKit Go.Lib

/-- A call that answers some bool. -/
def SomeB (w : World) (e : Ending) (w' : World) : Prop := (∃ b, e = .returned (.bool b)) ∧ Below w.heap.size w w'
theorem SomeB.of {w w' : World} (b : Bool) (h : Below w.heap.size w w') : SomeB w (.returned (.bool b)) w' := ⟨⟨b, rfl⟩, h⟩
set_option linter.unusedSimpArgs false in
set_option linter.unusedVariables false in
set_option maxRecDepth 20000 in
set_option maxHeartbeats 4000000 in
theorem lightLaw_any (w : World) (B : Nat) (x : Lw) (cs : List Value) (hl : LawC w B x cs) :
    Calls Tryz.prog 29 #[.agg cs.toArray] w (SomeB w) := by
  obtain ⟨k1, s1, n1, lo1, hi1, A1, m1, c1, k2, s2, n2, lo2, hi2, A2, m2, c2, A3, c3, A4', c4', rfl, -⟩ := hl.form
  clear hl
  generalize x.name = nm at *
  generalize x.ifs.length = i3 at *
  generalize x.outs.length = i4 at *
  generalize x.mode = mode at *
  show Calls _ _ #[.agg #[.string nm, .int .i64 k1, .int .u32 s1.1, .int .u32 s1.2, .bool n1, .int .i64 lo1, .int .i64 hi1, .slice A1 m1 c1, .int .i64 k2, .int .u32 s2.1, .int .u32 s2.2, .bool n2, .int .i64 lo2, .int .i64 hi2, .slice A2 m2 c2, .slice A3 i3 c3, .slice A4' i4 c4', .int .i64 mode]] _ _
  have hb0 := (Below.refl w.heap.size w).alloc (Nat.le_refl _) (.cells #[.string nm, .int .i64 k1, .int .u32 s1.1, .int .u32 s1.2, .bool n1, .int .i64 lo1, .int .i64 hi1, .slice A1 m1 c1, .int .i64 k2, .int .u32 s2.1, .int .u32 s2.2, .bool n2, .int .i64 lo2, .int .i64 hi2, .slice A2 m2 c2, .slice A3 i3 c3, .slice A4' i4 c4', .int .i64 mode] 62)
  have HB0 := Lib.hid hb0
  clear hb0
  go_enter Tryz.func29, Tryz.ntmps29
  by_cases h1 : nm.size ≤ 300
  · have h1I : (nm.size : Int) ≤ 300 := by omega
    by_cases h2 : i3 ≤ 50
    · have h2I : (i3 : Int) ≤ 50 := by omega
      go_wp2
      go_ret
      exact SomeB.of _ HB0.out
    · have h2I : ¬ (i3 : Int) ≤ 50 := by omega
      go_wp2
      go_ret
      exact SomeB.of _ HB0.out
  · have h1I : ¬ (nm.size : Int) ≤ 300 := by omega
    go_wp2
    go_ret
    exact SomeB.of _ HB0.out
set_option linter.unusedSimpArgs false in
set_option maxRecDepth 20000 in
set_option maxHeartbeats 4000000 in
theorem longS_any (A : Option Addr) (n c B : Nat) (l : List ByteArray) (w : World) (hr : ReadS w B A n l) (hB : B ≤ w.heap.size) (hn : n ≤ maxLen) :
    Calls Tryz.prog 31 #[.slice A n c, .func (.func 32) #[] #[]] w (SomeB w) := by
  unfold maxLen at hn
  have hl := hr.len
  have hidx : Calls Tryz.prog 82 #[.slice A n c, .func (.func 32) #[] #[]] w fun e w' => (∃ r : Int, e = .returned (.int .i64 r)) ∧ Below w.heap.size w w' := by
    have HR := Lib.hid hr
    clear hr
    go_enter Tryz.func82, Tryz.ntmps82
    go_wp2
    go_loopw [8] (fun i wr => ∃ k : Nat, k ≤ n ∧ i = .int .i64 k ∧ Below w.heap.size w wr) (fun i _ => n - (RowKit.intOf i).toNat)
    case atStart => exact ⟨0, by omega, rfl, Below.refl _ _⟩
    case round =>
      obtain ⟨k, hk, rfl, hb⟩ := hrel
      have HB := Lib.hid hb
      clear hb
      by_cases hlt : k < n
      · have hkI : (k : Int) < (n : Int) := by omega
        have hk0 : (0 : Int) ≤ (k : Int) := by omega
        obtain ⟨ad, rfl, had, hc⟩ := ReadS.at_ (k := k) (Reads.below HR.out (HB.out.mono hB)) (by omega)
        generalize l[k] = s at *
        have hcl : Calls Tryz.prog 32 #[.string s] wr fun e w' => (∃ b, e = .returned (.bool b)) ∧ wr = w' := by
          go_enter Tryz.func32, Tryz.ntmps32
          go_wp2
          go_ret
          exact ⟨⟨_, rfl⟩, rfl⟩
        have HCL := Lib.hid hcl
        clear hcl
        go_wp2_with fail
        refine HCL.out.mono ?_
        rintro e w2 ⟨⟨b, rfl⟩, rfl⟩
        cases b with
        | true =>
          go_wp2
          go_ret
          exact ⟨⟨_, rfl⟩, HB.out⟩
        | false =>
          go_wp2
          go_roundw
          case rel => exact ⟨k + 1, by omega, by go_num, HB.out⟩
          case measure => simp [RowKit.intOf]; omega
      · obtain rfl : n = k := by omega
        go_wp2
        go_ret
        exact ⟨⟨_, rfl⟩, HB.out⟩
  have HI := Lib.hid hidx
  clear hidx hr hl
  go_enter Tryz.func31, Tryz.ntmps31
  go_wp2_with fail
  refine HI.out.mono ?_
  rintro e w2 ⟨⟨r, rfl⟩, hb2⟩
  have HB2 := Lib.hid hb2
  clear hb2
  go_wp2
  go_ret
  exact SomeB.of _ HB2.out
end Go.Proofs.YtmepaeahchiglaaGreatDoor
namespace Go.Proofs.YtmepaeahchiglaaGreatDoor
open Go.RowKit Go.Lib

set_option maxRecDepth 20000 in
set_option maxHeartbeats 1000000 in
theorem cloneF_any (A : Option Addr) (n c : Nat) (xs : List Value) (w : World) (K : Nat) (hr : Reads w K 2 A n xs) (h1 : ∀ u ∈ xs, u.oneCell' = true) (hK : K ≤ w.heap.size) (hn : n ≤ 100000) :
    Calls Tryz.prog 30 #[.slice A n c] w fun e w' => ∃ v, e = .returned v ∧ w'.ownsRow w.heap.size 82 2 v n xs ∧ Below w.heap.size w w' := by
  obtain ⟨i0, hi, hz0, hz1, hz2⟩ := info_parts (show (Tryz.prog.info? 82).map (fun i => (i.zero, i.size, i.bytes)) = some (some (.agg #[.bool false, .slice none 0 0]), 2, 32) by kernel_rfl)
  have hl := hr.1
  have hnil := fun (W : World) (a : Option Addr) (n c : Nat) => Lib.run_eql_slice_nil (P := Tryz.prog) W 30 82 a n c 0 0 Tryz.underlying30
  rcases A with _ | ad
  · have h0 : n = 0 := by
      rcases Nat.eq_zero_or_pos n with h | h
      · exact h
      · obtain ⟨_, h', _⟩ := hr.2 h; cases h'
    subst h0
    obtain rfl : xs = [] := List.eq_nil_of_length_eq_zero (by omega)
    clear hl
    go_enter Tryz.func30, Tryz.ntmps30
    go_wp2
    go_ret
    exact ⟨_, rfl, World.ownsRow_nil _ _ _ _, Below.refl _ _⟩
  · have hown := own_empty04 w 82 2
    have hr' := (hr.more hK).alloc (Nat.le_refl _) (.cells #[] 82)
    clear hl
    go_enter Tryz.func30, Tryz.ntmps30
    go_wp2_with (at_builtin; refine wpList_append_any _ rfl _ _ _ rfl w.heap.size 82 i0 (.agg #[.bool false, .slice none 0 0]) 2 32 Tryz.underlying30 hi hz0 hz1 hz2 rfl (by decide) _ _ _ rfl hown w.heap.size _ _ _ xs rfl hr' h1 (by unfold maxLen; omega) (by omega) (by simp) ?_; intro v' w1 hown' hgrow _)
    have hb1 : Below w.heap.size w w1 := ((Below.refl _ w).alloc (Nat.le_refl _) _).grown hgrow (by simp) (fun g hg => (hown.lt g hg).1)
    clear hgrow
    go_ret
    exact ⟨_, rfl, by simpa using hown', hb1⟩
set_option maxRecDepth 20000 in
set_option maxHeartbeats 1000000 in
/-- A form's cells. -/
abbrev FmV := Bool × Option Addr × Nat × Nat
abbrev fmC (x : FmV) : List Value := [.bool x.1, .slice x.2.1 x.2.2.1 x.2.2.2]
set_option linter.unusedSimpArgs false in
set_option maxRecDepth 20000 in
set_option maxHeartbeats 4000000 in
theorem longF_any (A : Option Addr) (n c B : Nat) (l : List FmV) (w : World) (hr : Reads w B 2 A n (l.flatMap fmC)) (hB : B ≤ w.heap.size) (hn : n ≤ maxLen) :
    Calls Tryz.prog 33 #[.slice A n c, .func (.func 34) #[] #[]] w (SomeB w) := by
  unfold maxLen at hn
  have hl := hr.len_of (fun _ => rfl) (by decide)
  have hidx : Calls Tryz.prog 83 #[.slice A n c, .func (.func 34) #[] #[]] w fun e w' => (∃ r : Int, e = .returned (.int .i64 r)) ∧ Below w.heap.size w w' := by
    have HR := Lib.hid hr
    clear hr
    go_enter Tryz.func83, Tryz.ntmps83
    go_wp2
    go_loopw [8] (fun i wr => ∃ k : Nat, k ≤ n ∧ i = .int .i64 k ∧ Below w.heap.size w wr) (fun i _ => n - (RowKit.intOf i).toNat)
    case atStart => exact ⟨0, by omega, rfl, Below.refl _ _⟩
    case round =>
      obtain ⟨k, hk, rfl, hb⟩ := hrel
      have HB := Lib.hid hb
      clear hb
      by_cases hlt : k < n
      · have hkI : (k : Int) < (n : Int) := by omega
        have hk0 : (0 : Int) ≤ (k : Int) := by omega
        obtain ⟨ad, e, had, hcc⟩ := (Reads.below HR.out (HB.out.mono hB)).row (fun _ => rfl) (by decide) (i := k) (by omega)
        subst e
        have e0 := hcc 0 _ rfl
        have e1 := hcc 1 _ rfl
        rw [Nat.add_zero] at e0
        rw [add_next ad (k * 2) 0] at e1
        generalize l[k] = x at *
        obtain ⟨bb, Ax, nx, cx⟩ := x
        simp only [] at *
        have hcl : Calls Tryz.prog 34 #[.agg #[.bool bb, .slice Ax nx cx]] wr fun e w' => (∃ b, e = .returned (.bool b)) ∧ Below wr.heap.size wr w' := by
          have hb1 := (Below.refl wr.heap.size wr).alloc (Nat.le_refl _) (.cells #[.bool bb, .slice Ax nx cx] 82)
          have HB1 := Lib.hid hb1
          clear hcc e0 e1 hb1
          go_enter Tryz.func34, Tryz.ntmps34
          go_wp2
          go_ret
          exact ⟨⟨_, rfl⟩, HB1.out⟩
        clear hcc
        have HCL := Lib.hid hcl
        clear hcl
        go_wp2_with fail
        refine HCL.out.mono ?_
        rintro e w2 ⟨⟨b, rfl⟩, hb2⟩
        have HB2 := Lib.hid (HB.out.trans (hb2.mono HB.out.size))
        clear hb2
        cases b with
        | true =>
          go_wp2
          go_ret
          exact ⟨⟨_, rfl⟩, HB2.out⟩
        | false =>
          go_wp2
          go_roundw
          case rel => exact ⟨k + 1, by omega, by go_num, HB2.out⟩
          case measure => simp [RowKit.intOf]; omega
      · obtain rfl : n = k := by omega
        go_wp2
        go_ret
        exact ⟨⟨_, rfl⟩, HB.out⟩
  have HI := Lib.hid hidx
  clear hidx hr hl
  go_enter Tryz.func33, Tryz.ntmps33
  go_wp2_with fail
  refine HI.out.mono ?_
  rintro e w2 ⟨⟨r, rfl⟩, hb2⟩
  have HB2 := Lib.hid hb2
  clear hb2
  go_wp2
  go_ret
  exact SomeB.of _ HB2.out
end Go.Proofs.YtmepaeahchiglaaGreatDoor
