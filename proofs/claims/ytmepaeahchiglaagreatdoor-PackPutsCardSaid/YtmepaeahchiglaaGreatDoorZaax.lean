/-
  layer 43: the reference's history. Conditions: a project of the size of a valid one. (Printed by pjhist.py.)
-/
import Derived.Test.YtmepaeahchiglaaGreatDoorZaPjY1
import Derived.Test.YtmepaeahchiglaaGreatDoorZaau
namespace Go.Proofs.YtmepaeahchiglaaGreatDoor
open Go.RowKit Go.Lib

theorem refCount_int (k : Int) (w : World) (h0 : 0 ≤ k) (h1 : k < 4294967296) : Calls Tryz.prog 42 #[.int .i64 k] w (GivesB w (numB k.toNat)) := by
  have h := refCount_any k.toNat w (by omega)
  rw [show ((k.toNat : Nat) : Int) = k by omega] at h
  exact h
theorem on_len {w : World} {B : Nat} : ∀ x cs, OnC w B x cs → cs.length = 1 := by
  rintro x cs ⟨v, rfl, -⟩; rfl
def histB (t : List Nd) (laws : List Lw) (on : List (List Int)) : List Nat := allB ndB t ++ (allB lawB laws ++ on.flatMap (allB intB))
set_option linter.unusedSimpArgs false in
set_option linter.unusedVariables false in
set_option maxRecDepth 20000 in
set_option maxHeartbeats 8000000 in
theorem refHistory_any (w : World) (B : Nat) (p : Pj) (q4 q5 q6 : Value) (h4 : SlC NdC 2 w B p.tree q4) (h5 : SlC LawC 18 w B p.laws q5) (h6 : SlC OnC 1 w B p.on q6) (hB : B ≤ w.heap.size) (hok : PjOk p) :
    Calls Tryz.prog 40 #[.agg #[q4, q5, q6]] w (GivesB w (histB p.tree p.laws p.on)) := by
  obtain ⟨A4, m4, c4, rfl, e4⟩ := h4.form
  obtain ⟨A5, m5, c5, rfl, e5⟩ := h5.form
  obtain ⟨A6, m6, c6, rfl, e6⟩ := h6.form
  have hm4 := h4.len.2; have hm5 := h5.len.2; have hm6 := h6.len.2
  unfold maxLen at hm4 hm5 hm6
  have n4 := hok.n4; have n5 := hok.n5; have n6 := hok.n6
  obtain ⟨o, ho⟩ : ∃ o, Obj.cells #[.slice A4 m4 c4, .slice A5 m5 c5, .slice A6 m6 c6] 29 = o := ⟨_, rfl⟩
  have hb0 := (Below.refl w.heap.size w).alloc (Nat.le_refl _) o
  have hbox : Blk (w.alloc o) w.heap.size 29 #[.slice A4 m4 c4, .slice A5 m5 c5, .slice A6 m6 c6] := by rw [← ho]; exact Blk.new w _ _
  have hlt1 : w.heap.size ≤ (w.alloc o).heap.size := by rw [World.size_alloc]; omega
  have hc0 := refCount_any m4 (w.alloc o) (by omega)
  have hkp := fun (W : World) (hW : Below w.heap.size w W) => fun (q : Addr) (hq : q.block < B) => hW.cell (p := q) (Nat.lt_of_lt_of_le hq hB)
  obtain ⟨ys, hys⟩ : ∃ ys, histB p.tree p.laws p.on = ys := ⟨_, rfl⟩
  rw [hys]
  have HO := Lib.hid ho; have HB0 := Lib.hid hb0; have HBOX := Lib.hid hbox; have HKP := Lib.hid hkp; have HYS := Lib.hid hys; have HOK := Lib.hid hok; have HC0 := Lib.hid hc0; have HBB := Lib.hid hB
  have HQ4 := Lib.hid h4; have HQ5 := Lib.hid h5; have HQ6 := Lib.hid h6
  have HN4 := Lib.hid e4; have HN5 := Lib.hid e5; have HN6 := Lib.hid e6
  have h1000 : m4 ≤ 1000 ∧ m5 ≤ 1000 ∧ m6 ≤ 1000 := by omega
  have k0 := hbox.cell 0; have k1 := hbox.cell 1; have k2 := hbox.cell 2
  simp only [List.getElem?_toArray, List.getElem?_cons_zero, List.getElem?_cons_succ] at k0 k1 k2
  clear h4 h5 h6 e4 e5 e6 ho hb0 hbox hkp hys hok hc0 n4 n5 n6 hB
  go_enter Tryz.func40, Tryz.ntmps40
  go_wp2_with (rw [HO.out])
  refine HC0.out.mono ?_
  rintro e w1 ⟨v1, rfl, ho1, hb1⟩
  have hst : St w w1 29 #[.slice A4 m4 c4, .slice A5 m5 c5, .slice A6 m6 c6] v1 (numB m4) := ⟨own_mono ho1 hlt1, HBOX.out.below hb1 HBOX.out.lt, HB0.out.trans (hb1.mono hlt1)⟩
  have HST := Lib.hid hst
  clear hst ho1 hb1 k0 k1 k2
  obtain ⟨z0, hz0⟩ : ∃ z, numB m4 = z := ⟨_, rfl⟩
  have hlz0 : z0.length ≤ 5 := by rw [← hz0]; exact numB_len m4
  have hst := HST.out
  rw [hz0] at hst
  have HST := Lib.hid hst; have HZ0 := Lib.hid hz0
  have k0 := hst.box.cell 0; have k1 := hst.box.cell 1; have k2 := hst.box.cell 2
  simp only [List.getElem?_toArray, List.getElem?_cons_zero, List.getElem?_cons_succ] at k0 k1 k2
  clear hst hz0
  go_wp2
  have HP1 := Lib.hid (part_len (put := ndB) (l := p.tree) (m := 1015) (fun x hx => by have := ndB_len x; have := (HOK.out.o4 x hx).2.2; omega))
  clear k0 k1 k2
  go_loopw [3, 4] (fun v i wr => ∃ k : Nat, k ≤ m4 ∧ i = .int .i64 k ∧ St w wr 29 #[.slice A4 m4 c4, .slice A5 m5 c5, .slice A6 m6 c6] v (z0 ++ (p.tree.take k).flatMap ndB)) (fun _ i _ => m4 - (RowKit.intOf i).toNat)
  case atStart => exact ⟨0, by omega, rfl, by simpa using HST.out⟩
  case round =>
    obtain ⟨j1, hk1, rfl, hst⟩ := hrel
    obtain ⟨V1, hV1⟩ : ∃ W, W = wr := ⟨_, rfl⟩
    subst hV1
    have k0 := hst.box.cell 0
    have k1 := hst.box.cell 1
    have k2 := hst.box.cell 2
    simp only [List.getElem?_toArray, List.getElem?_cons_zero, List.getElem?_cons_succ] at k0 k1 k2
    have HR1 := Lib.hid hst
    clear hst
    by_cases hlt1 : j1 < m4
    · have hkl1 : j1 < p.tree.length := by have := HN4.out; omega
      have hkI1 : (j1 : Int) < (m4 : Int) := by omega
      have hk01 : (0 : Int) ≤ (j1 : Int) := by omega
      obtain ⟨ad1, cs1, hA, had1, hP1, hcc1⟩ := slC_cells (plain_len (f := fun x : Nd => [Value.int .i64 x.1, Value.string x.2]) (m := 2) fun _ => rfl) HQ4.out hkl1
      have hadb1 : ∀ m, (ad1.add m).block < B := fun m => by rw [add_block_]; exact had1
      have hlen1 : (z0 ++ (p.tree.take j1).flatMap ndB).length ≤ 1000000000 := by
        have h1 := HP1.out j1
        have h2 := HN4.out
        rw [List.length_append]
        omega
      have hts := allB_next ndB p.tree z0 j1 hkl1
      obtain ⟨y1, hy⟩ : ∃ y, z0 ++ (p.tree.take j1).flatMap ndB = y := ⟨_, rfl⟩
      have hr := HR1.out
      rw [hy] at hts hlen1 hr
      have HRR1 := Lib.hid hr
      clear HR1 hr hy
      subst hA
      have hokx := HOK.out.o4 _ (List.getElem_mem hkl1)
      generalize p.tree[j1] = x at *
      obtain ⟨pa, nm⟩ := x
      obtain rfl : cs1 = [.int .i64 pa, .string nm] := hP1
      have e1_0 := hcc1 0 _ rfl
      have e1_1 := hcc1 1 _ rfl
      rw [Nat.add_zero] at e1_0
      rw [add_next ad1 (j1 * 2) 0] at e1_1
      simp only [] at hokx
      clear hcc1
      have f0 := (HKP.out V1 HRR1.out.bel (ad1.add (j1 * 2)) (hadb1 _)).trans e1_0
      have f1 := (HKP.out V1 HRR1.out.bel ⟨(ad1.add (j1 * 2)).block, _, none⟩ (hadb1 _)).trans e1_1
      have HTS := Lib.hid hts
      clear hts
      have hl1 := textB_len nm
      have hl2 := numB_len (pa + 1).toNat
      obtain ⟨hp1, hp2, hp3⟩ := hokx
      have hp4 : (0 : Int) ≤ pa + 1 := by omega
      have hc2 := refCount_int (pa + 1) V1 (by omega) (by omega)
      have HC2 := Lib.hid hc2
      clear hc2
      go_wp2_with (fail)
      refine HC2.out.mono ?_
      rintro e w2 ⟨v2, rfl, ho2, hb2⟩
      obtain ⟨Aw2, cw2, rfl, _, _⟩ := ownsRow_form ho2
      have HST2 := Lib.hid (HRR1.out.call hb2); have HO2 := Lib.hid ho2
      clear ho2 hb2 k0 k1 k2 f0 f1
      go_wp2_with (at_builtin; refine St.append rfl _ _ rfl HST2.out (by decide) rfl _ _ _ _ _ rfl HO2.out (by omega) ?_; intro x2 W2 hs2; have k0 := hs2.box.cell 0; have k1 := hs2.box.cell 1; have k2 := hs2.box.cell 2; simp only [List.getElem?_toArray, List.getElem?_cons_zero, List.getElem?_cons_succ] at k0 k1 k2; have f0 := (HKP.out W2 hs2.bel (ad1.add (j1 * 2)) (hadb1 _)).trans e1_0; have f1 := (HKP.out W2 hs2.bel ⟨(ad1.add (j1 * 2)).block, _, none⟩ (hadb1 _)).trans e1_1; have HS2 := Lib.hid hs2; clear hs2)
      have hc3 := refText_any nm W2 (by omega)
      have HC3 := Lib.hid hc3
      clear hc3
      go_wp2_with (fail)
      refine HC3.out.mono ?_
      rintro e w3 ⟨v3, rfl, ho3, hb3⟩
      obtain ⟨Aw3, cw3, rfl, _, _⟩ := ownsRow_form ho3
      have HST3 := Lib.hid (HS2.out.call hb3); have HO3 := Lib.hid ho3
      clear ho3 hb3 k0 k1 k2 f0 f1
      go_wp2_with (at_builtin; refine St.append rfl _ _ rfl HST3.out (by decide) rfl _ _ _ _ _ rfl HO3.out (by rw [List.length_append]; omega) ?_; intro x3 W3 hs3; have k0 := hs3.box.cell 0; have k1 := hs3.box.cell 1; have k2 := hs3.box.cell 2; simp only [List.getElem?_toArray, List.getElem?_cons_zero, List.getElem?_cons_succ] at k0 k1 k2; have f0 := (HKP.out W3 hs3.bel (ad1.add (j1 * 2)) (hadb1 _)).trans e1_0; have f1 := (HKP.out W3 hs3.bel ⟨(ad1.add (j1 * 2)).block, _, none⟩ (hadb1 _)).trans e1_1; have HS3 := Lib.hid hs3; clear hs3)
      go_roundw
      case rel => exact ⟨j1 + 1, by omega, by go_num, by rw [HTS.out]; have h := HS3.out; rw [List.append_assoc] at h; exact h⟩
      case measure => simp [RowKit.intOf]; omega
    · obtain rfl : m4 = j1 := by omega
      have hx := HR1.out
      rw [List.take_of_length_le (by rw [HN4.out]; exact Nat.le_refl _)] at hx
      have hlz : (z0 ++ p.tree.flatMap ndB).length ≤ 1000000000 := by
        have h1 := HP1.out m4
        have h2 := HN4.out
        rw [List.take_of_length_le (by rw [h2]; exact Nat.le_refl _)] at h1
        rw [List.length_append]
        omega
      obtain ⟨z1, hz1⟩ : ∃ z, z0 ++ p.tree.flatMap ndB = z := ⟨_, rfl⟩
      rw [hz1] at hx hlz
      have HZ1 := Lib.hid hz1; have HX1 := Lib.hid hx; have HLZ1 := Lib.hid hlz
      clear hx hz1 hlz HR1 hlt1
      have hl0 := numB_len m5
      have hlq := HLZ1.out
      have hc4 := refCount_any m5 V1 (by omega)
      have HC4 := Lib.hid hc4
      clear hc4
      go_wp2_with (fail)
      refine HC4.out.mono ?_
      rintro e w4 ⟨v4, rfl, ho4, hb4⟩
      obtain ⟨Aw4, cw4, rfl, _, _⟩ := ownsRow_form ho4
      have HST4 := Lib.hid (HX1.out.call hb4); have HO4 := Lib.hid ho4
      clear ho4 hb4 k0 k1 k2
      go_wp2_with (at_builtin; refine St.append rfl _ _ rfl HST4.out (by decide) rfl _ _ _ _ _ rfl HO4.out (by omega) ?_; intro x4 W4 hs4; have k0 := hs4.box.cell 0; have k1 := hs4.box.cell 1; have k2 := hs4.box.cell 2; simp only [List.getElem?_toArray, List.getElem?_cons_zero, List.getElem?_cons_succ] at k0 k1 k2; have HS4 := Lib.hid hs4; clear hs4)
      obtain ⟨zb, hzb⟩ : ∃ y, z1 ++ numB m5 = y := ⟨_, rfl⟩
      have hlb : zb.length ≤ 1000000010 := by rw [← hzb, List.length_append]; omega
      have hst := HS4.out
      rw [hzb] at hst
      have HSTb := Lib.hid hst; have HZb := Lib.hid hzb; have HZ1 := HZ1
      clear hst hzb hlq
      have HP5 := Lib.hid (part_len (put := lawB) (l := p.laws) (m := 100000) (fun x hx => (HOK.out.o5 x hx).2))
      clear k0 k1 k2
      go_loopw [3, 5] (fun v i wr => ∃ k : Nat, k ≤ m5 ∧ i = .int .i64 k ∧ St w wr 29 #[.slice A4 m4 c4, .slice A5 m5 c5, .slice A6 m6 c6] v (zb ++ (p.laws.take k).flatMap lawB)) (fun _ i _ => m5 - (RowKit.intOf i).toNat)
      case atStart => exact ⟨0, by omega, rfl, by simpa using HSTb.out⟩
      case round =>
        obtain ⟨j5, hk5, rfl, hst⟩ := hrel
        obtain ⟨V5, hV5⟩ : ∃ W, W = wr := ⟨_, rfl⟩
        subst hV5
        have k0 := hst.box.cell 0
        have k1 := hst.box.cell 1
        have k2 := hst.box.cell 2
        simp only [List.getElem?_toArray, List.getElem?_cons_zero, List.getElem?_cons_succ] at k0 k1 k2
        have HR5 := Lib.hid hst
        clear hst
        by_cases hlt5 : j5 < m5
        · have hkl5 : j5 < p.laws.length := by have := HN5.out; omega
          have hkI5 : (j5 : Int) < (m5 : Int) := by omega
          have hk05 : (0 : Int) ≤ (j5 : Int) := by omega
          obtain ⟨ad5, cs5, hA, had5, hP5, hcc5⟩ := slC_cells (fun _ _ h => law_len h) HQ5.out hkl5
          have hadb5 : ∀ m, (ad5.add m).block < B := fun m => by rw [add_block_]; exact had5
          have hlen5 : (zb ++ (p.laws.take j5).flatMap lawB).length ≤ 1200000000 := by
            have h1 := HP5.out j5
            have h2 := HN5.out
            rw [List.length_append]
            omega
          have hts := allB_next lawB p.laws zb j5 hkl5
          obtain ⟨y5, hy⟩ : ∃ y, zb ++ (p.laws.take j5).flatMap lawB = y := ⟨_, rfl⟩
          have hr := HR5.out
          rw [hy] at hts hlen5 hr
          have HRR5 := Lib.hid hr
          clear HR5 hr hy
          subst hA
          have hokx := HOK.out.o5 _ (List.getElem_mem hkl5)
          generalize p.laws[j5] = x at *
          have h18 := law_len hP5
          have hcell : ∀ j u, cs5[j]? = some u → V5.cell? ((ad5.add (j5 * 18)).add j) = some u := fun j u hu => by
            rw [add_add]
            exact (HKP.out V5 HRR5.out.bel _ (hadb5 _)).trans (hcc5 j u hu)
          have hlawc := hP5.keep (HKP.out V5 HRR5.out.bel)
          have HTS := Lib.hid hts; have H18 := Lib.hid h18; have HCELL := Lib.hid hcell; have HLAWC := Lib.hid hlawc; have HOX := Lib.hid hokx.1
          have hl1 := hokx.2
          clear hts hcc5 h18 hcell hlawc hokx
          have hc6 := refLawB_any V5 B x cs5 HLAWC.out (Nat.le_trans HBB.out HRR5.out.bel.size) HOX.out
          have HC6 := Lib.hid hc6
          clear hc6
          go_wp2_with (refine law_load_at rfl _ rfl _ rfl cs5 H18.out HCELL.out ?_; simp only [Act.put, List.setIfInBounds_toArray, List.set_cons_zero, List.set_cons_succ])
          refine HC6.out.mono ?_
          rintro e w6 ⟨v6, rfl, ho6, hb6⟩
          obtain ⟨Aw6, cw6, rfl, _, _⟩ := ownsRow_form ho6
          have HST6 := Lib.hid (HRR5.out.call hb6); have HO6 := Lib.hid ho6
          clear ho6 hb6 k0 k1 k2
          go_wp2_with (at_builtin; refine St.append rfl _ _ rfl HST6.out (by decide) rfl _ _ _ _ _ rfl HO6.out (by omega) ?_; intro x6 W6 hs6; have k0 := hs6.box.cell 0; have k1 := hs6.box.cell 1; have k2 := hs6.box.cell 2; simp only [List.getElem?_toArray, List.getElem?_cons_zero, List.getElem?_cons_succ] at k0 k1 k2; have HS6 := Lib.hid hs6; clear hs6)
          go_roundw
          case rel => exact ⟨j5 + 1, by omega, by go_num, by rw [HTS.out]; exact HS6.out⟩
          case measure => simp [RowKit.intOf]; omega
        · obtain rfl : m5 = j5 := by omega
          have hx := HR5.out
          rw [List.take_of_length_le (by rw [HN5.out]; exact Nat.le_refl _)] at hx
          have hlz : (zb ++ p.laws.flatMap lawB).length ≤ 1200000000 := by
            have h1 := HP5.out m5
            have h2 := HN5.out
            rw [List.take_of_length_le (by rw [h2]; exact Nat.le_refl _)] at h1
            rw [List.length_append]
            omega
          obtain ⟨z5, hz5⟩ : ∃ z, zb ++ p.laws.flatMap lawB = z := ⟨_, rfl⟩
          rw [hz5] at hx hlz
          have HZ5 := Lib.hid hz5; have HX5 := Lib.hid hx; have HLZ5 := Lib.hid hlz
          clear hx hz5 hlz HR5 hlt5
          have hlq := HLZ5.out
          have HZ2 := HZ5
          go_wp2
          have HP7 := Lib.hid (part_len (put := (allB intB)) (l := p.on) (m := 6000) (fun x hx => HOK.out.lens.2.2.2.2.2.1 x hx))
          clear k0 k1 k2
          go_loopw [3, 6] (fun v i wr => ∃ k : Nat, k ≤ m6 ∧ i = .int .i64 k ∧ St w wr 29 #[.slice A4 m4 c4, .slice A5 m5 c5, .slice A6 m6 c6] v (z5 ++ (p.on.take k).flatMap (allB intB))) (fun _ i _ => m6 - (RowKit.intOf i).toNat)
          case atStart => exact ⟨0, by omega, rfl, by simpa using HX5.out⟩
          case round =>
            obtain ⟨j7, hk7, rfl, hst⟩ := hrel
            obtain ⟨V7, hV7⟩ : ∃ W, W = wr := ⟨_, rfl⟩
            subst hV7
            have k0 := hst.box.cell 0
            have k1 := hst.box.cell 1
            have k2 := hst.box.cell 2
            simp only [List.getElem?_toArray, List.getElem?_cons_zero, List.getElem?_cons_succ] at k0 k1 k2
            have HR7 := Lib.hid hst
            clear hst
            by_cases hlt7 : j7 < m6
            · have hkl7 : j7 < p.on.length := by have := HN6.out; omega
              have hkI7 : (j7 : Int) < (m6 : Int) := by omega
              have hk07 : (0 : Int) ≤ (j7 : Int) := by omega
              obtain ⟨ad7, cs7, hA, had7, hP7, hcc7⟩ := slC_cells on_len HQ6.out hkl7
              have hadb7 : ∀ m, (ad7.add m).block < B := fun m => by rw [add_block_]; exact had7
              have hlen7 : (z5 ++ (p.on.take j7).flatMap (allB intB)).length ≤ 1300000000 := by
                have h1 := HP7.out j7
                have h2 := HN6.out
                rw [List.length_append]
                omega
              have hts := allB_next (allB intB) p.on z5 j7 hkl7
              obtain ⟨y7, hy⟩ : ∃ y, z5 ++ (p.on.take j7).flatMap (allB intB) = y := ⟨_, rfl⟩
              have hr := HR7.out
              rw [hy] at hts hlen7 hr
              have HRR7 := Lib.hid hr
              clear HR7 hr hy
              subst hA
              have hokx := HOK.out.o6 _ (List.getElem_mem hkl7)
              generalize p.on[j7] = x at *
              obtain ⟨vx, rfl, hvx⟩ := hP7
              obtain ⟨Ax, nx, cx, rfl, ex⟩ := hvx.form
              have hxl := hvx.len.2
              unfold maxLen at hxl
              have e7_0 := hcc7 0 _ rfl
              rw [Nat.mul_one, Nat.add_zero] at e7_0
              clear hcc7
              have fo0 := (HKP.out V7 HRR7.out.bel (ad7.add j7) (hadb7 _)).trans e7_0
              have HTSo := Lib.hid hts; have HVX := Lib.hid hvx; have HEX := Lib.hid ex; have HOX := Lib.hid hokx
              have hx1 := hokx.1
              clear hts hvx hokx
              have hl1 := numB_len nx
              have hnx : nx ≤ 1000 := by omega
              clear ex hx1
              have hc8 := refCount_any nx V7 (by omega)
              have HC8 := Lib.hid hc8
              clear hc8
              go_wp2_with (fail)
              refine HC8.out.mono ?_
              rintro e w8 ⟨v8, rfl, ho8, hb8⟩
              obtain ⟨Aw8, cw8, rfl, _, _⟩ := ownsRow_form ho8
              have HST8 := Lib.hid (HRR7.out.call hb8); have HO8 := Lib.hid ho8
              clear ho8 hb8 k0 k1 k2 fo0
              go_wp2_with (at_builtin; refine St.append rfl _ _ rfl HST8.out (by decide) rfl _ _ _ _ _ rfl HO8.out (by omega) ?_; intro x8 W8 hs8; have k0 := hs8.box.cell 0; have k1 := hs8.box.cell 1; have k2 := hs8.box.cell 2; simp only [List.getElem?_toArray, List.getElem?_cons_zero, List.getElem?_cons_succ] at k0 k1 k2; have fo0 := (HKP.out W8 hs8.bel (ad7.add j7) (hadb7 _)).trans e7_0; have HS8 := Lib.hid hs8; clear hs8)
              obtain ⟨yb, hyb⟩ : ∃ y, y7 ++ numB nx = y := ⟨_, rfl⟩
              have hlyb : yb.length ≤ 1300000010 := by rw [← hyb, List.length_append]; omega
              have hst := HS8.out
              rw [hyb] at hst
              have HSTy := Lib.hid hst; have HYB := Lib.hid hyb
              clear hst hyb
              go_wp2
              have HP9 := Lib.hid (part_len (put := intB) (l := x) (m := 5) (fun x _ => numB_len _))
              clear k0 k1 k2 fo0
              go_loopw [3, 7] (fun v i wr => ∃ k : Nat, k ≤ nx ∧ i = .int .i64 k ∧ St w wr 29 #[.slice A4 m4 c4, .slice A5 m5 c5, .slice (some ad7) m6 c6] v (yb ++ (x.take k).flatMap intB)) (fun _ i _ => nx - (RowKit.intOf i).toNat)
              case atStart => exact ⟨0, by omega, rfl, by simpa using HSTy.out⟩
              case round =>
                obtain ⟨j9, hk9, rfl, hst⟩ := hrel
                obtain ⟨V9, hV9⟩ : ∃ W, W = wr := ⟨_, rfl⟩
                subst hV9
                have k0 := hst.box.cell 0
                have k1 := hst.box.cell 1
                have k2 := hst.box.cell 2
                simp only [List.getElem?_toArray, List.getElem?_cons_zero, List.getElem?_cons_succ] at k0 k1 k2
                have fo0 := (HKP.out V9 hst.bel (ad7.add j7) (hadb7 _)).trans e7_0
                have HR9 := Lib.hid hst
                clear hst
                by_cases hlt9 : j9 < nx
                · have hkl9 : j9 < x.length := by have := HEX.out; omega
                  have hkI9 : (j9 : Int) < (nx : Int) := by omega
                  have hk09 : (0 : Int) ≤ (j9 : Int) := by omega
                  obtain ⟨ad9, cs9, hA, had9, hP9, hcc9⟩ := slC_cells (plain_len (f := fun k : Int => [Value.int .i64 k]) (m := 1) fun _ => rfl) HVX.out hkl9
                  have hadb9 : ∀ m, (ad9.add m).block < B := fun m => by rw [add_block_]; exact had9
                  have hlen9 : (yb ++ (x.take j9).flatMap intB).length ≤ 1300010000 := by
                    have h1 := HP9.out j9
                    have h2 := HEX.out
                    rw [List.length_append]
                    omega
                  have hts := allB_next intB x yb j9 hkl9
                  obtain ⟨y9, hy⟩ : ∃ y, yb ++ (x.take j9).flatMap intB = y := ⟨_, rfl⟩
                  have hr := HR9.out
                  rw [hy] at hts hlen9 hr
                  have HRR9 := Lib.hid hr
                  clear HR9 hr hy
                  subst hA
                  have hoki := HOX.out.2 _ (List.getElem_mem hkl9)
                  generalize x[j9] = xi at *
                  obtain rfl : cs9 = [.int .i64 xi] := hP9
                  have e9_0 := hcc9 0 _ rfl
                  rw [Nat.mul_one, Nat.add_zero] at e9_0
                  clear hcc9
                  have hl2 := numB_len xi.toNat
                  have f0 := (HKP.out V9 HRR9.out.bel (ad9.add j9) (hadb9 _)).trans e9_0
                  have HTS := Lib.hid hts
                  clear hts
                  have hc10 := refCount_int xi V9 hoki.1 hoki.2
                  have HC10 := Lib.hid hc10
                  clear hc10
                  go_wp2_with (fail)
                  refine HC10.out.mono ?_
                  rintro e w10 ⟨v10, rfl, ho10, hb10⟩
                  obtain ⟨Aw10, cw10, rfl, _, _⟩ := ownsRow_form ho10
                  have HST10 := Lib.hid (HRR9.out.call hb10); have HO10 := Lib.hid ho10
                  clear ho10 hb10 k0 k1 k2 f0 fo0
                  go_wp2_with (at_builtin; refine St.append rfl _ _ rfl HST10.out (by decide) rfl _ _ _ _ _ rfl HO10.out (by omega) ?_; intro x10 W10 hs10; have k0 := hs10.box.cell 0; have k1 := hs10.box.cell 1; have k2 := hs10.box.cell 2; simp only [List.getElem?_toArray, List.getElem?_cons_zero, List.getElem?_cons_succ] at k0 k1 k2; have f0 := (HKP.out W10 hs10.bel (ad9.add j9) (hadb9 _)).trans e9_0; have fo0 := (HKP.out W10 hs10.bel (ad7.add j7) (hadb7 _)).trans e7_0; have HS10 := Lib.hid hs10; clear hs10)
                  go_roundw
                  case rel => exact ⟨j9 + 1, by omega, by go_num, by rw [HTS.out]; exact HS10.out⟩
                  case measure => simp [RowKit.intOf]; omega
                · obtain rfl : nx = j9 := by omega
                  have hx := HR9.out
                  rw [List.take_of_length_le (by rw [HEX.out]; exact Nat.le_refl _)] at hx
                  have hlz : (yb ++ x.flatMap intB).length ≤ 1300010000 := by
                    have h1 := HP9.out nx
                    have h2 := HEX.out
                    rw [List.take_of_length_le (by rw [h2]; exact Nat.le_refl _)] at h1
                    rw [List.length_append]
                    omega
                  obtain ⟨z9, hz9⟩ : ∃ z, yb ++ x.flatMap intB = z := ⟨_, rfl⟩
                  rw [hz9] at hx hlz
                  have HZ9 := Lib.hid hz9; have HX9 := Lib.hid hx; have HLZ9 := Lib.hid hlz
                  clear hx hz9 hlz HR9 hlt9
                  go_wp2
                  go_roundw
                  case rel => exact ⟨j7 + 1, by omega, by go_num, by rw [HTSo.out]; have h := HX9.out; rw [← HZ9.out, ← HYB.out, List.append_assoc] at h; rw [show allB intB x = numB nx ++ x.flatMap intB by rw [HEX.out]; rfl]; exact h⟩
                  case measure => simp [RowKit.intOf]; omega
            · obtain rfl : m6 = j7 := by omega
              have hx := HR7.out
              rw [List.take_of_length_le (by rw [HN6.out]; exact Nat.le_refl _)] at hx
              have hlz : (z5 ++ p.on.flatMap (allB intB)).length ≤ 1300000000 := by
                have h1 := HP7.out m6
                have h2 := HN6.out
                rw [List.take_of_length_le (by rw [h2]; exact Nat.le_refl _)] at h1
                rw [List.length_append]
                omega
              obtain ⟨z7, hz7⟩ : ∃ z, z5 ++ p.on.flatMap (allB intB) = z := ⟨_, rfl⟩
              rw [hz7] at hx hlz
              have HZ7 := Lib.hid hz7; have HX7 := Lib.hid hx; have HLZ7 := Lib.hid hlz
              clear hx hz7 hlz HR7 hlt7
              go_wp2
              go_ret
              have e : z7 = ys := by
                rw [← HYS.out, ← HZ7.out, ← HZ2.out, ← HZb.out, ← HZ1.out]
                unfold histB allB
                rw [← HN4.out, ← HN5.out, HZ0.out]
                simp only [List.append_assoc]
              exact ⟨_, rfl, by rw [← e]; exact HX7.out.own, HX7.out.bel⟩
end Go.Proofs.YtmepaeahchiglaaGreatDoor
namespace Go.Proofs.YtmepaeahchiglaaGreatDoor
open Go.RowKit Go.Lib

theorem ones_sub {R : Nat} (h : R < 4294967296) : ones ^^^ R = 4294967295 - R := by
  have e : (ones ^^^ R) = (BitVec.ofNat 32 ones ^^^ BitVec.ofNat 32 R).toNat := by
    rw [BitVec.toNat_xor, BitVec.toNat_ofNat, BitVec.toNat_ofNat, Nat.mod_eq_of_lt h]; rfl
  rw [e, show BitVec.ofNat 32 ones = BitVec.allOnes 32 by decide, BitVec.allOnes_xor, BitVec.toNat_not, BitVec.toNat_ofNat, Nat.mod_eq_of_lt h]
set_option maxRecDepth 20000 in
set_option maxHeartbeats 4000000 in
theorem refsum_any (A : Option Addr) (n c : Nat) (xs : List UInt8) (w : World) (hx : ReadB w w.heap.size A n xs) (hn : n ≤ maxLen) :
    Calls Tryz.prog 14 #[.slice A n c] w fun e w' => e = .returned (.int .u32 (sumB (xs.map UInt8.toNat) : Nat)) ∧ w = w' := by
  unfold maxLen at hn
  obtain ⟨res, hres⟩ : ∃ res : Nat, sumB (xs.map UInt8.toNat) = res := ⟨_, rfl⟩
  rw [hres]
  have HX := Lib.hid hx; have HRES := Lib.hid hres
  clear hx hres
  go_enter Tryz.func14, Tryz.ntmps14
  have hxl := HX.out.len
  go_wp2
  go_loopw [3, 4] (fun r i wr => ∃ k : Nat, k ≤ n ∧ i = .int .i64 k ∧ r = .int .u32 (crcAll ones ((xs.map UInt8.toNat).take k) : Nat) ∧ w = wr) (fun _ i _ => n - (RowKit.intOf i).toNat)
  case atStart => exact ⟨0, by omega, rfl, rfl, rfl⟩
  case round =>
    obtain ⟨k, hk, rfl, rfl, rfl⟩ := hrel
    by_cases hlt : k < n
    · have hkl : k < xs.length := by omega
      obtain ⟨ad, rfl, had, hcx⟩ := ReadB.at_ (k := k) HX.out hkl
      have hkI : (k : Int) < (n : Int) := by omega
      have hR : crcAll ones ((xs.map UInt8.toNat).take k) < 4294967296 := crcAll_lt _ (by decide) (fun c hc => by
        obtain ⟨x, _, rfl⟩ := List.mem_map.1 (List.mem_of_mem_take hc)
        exact x.toNat_lt)
      have hst : crcAll ones ((xs.map UInt8.toNat).take (k + 1)) = crcByte (crcAll ones ((xs.map UInt8.toNat).take k)) xs[k].toNat := by
        rw [List.take_succ_eq_append_getElem (by simpa using hkl)]
        unfold crcAll
        rw [List.foldl_append, List.foldl_cons, List.foldl_nil, List.getElem_map]
      have hc256 := xs[k].toNat_lt
      generalize xs[k].toNat = cc at hcx hst hc256
      generalize crcAll ones ((xs.map UInt8.toNat).take k) = R at hR hst ⊢
      have HST := Lib.hid hst
      have hxor := u32_xor_nat R cc hR (by omega)
      clear hst
      have hY : R ^^^ cc < 4294967296 := Nat.xor_lt_two_pow (n := 32) hR (by omega)
      go_wp2
      generalize hYe : R ^^^ cc = Y at *
      have HY := Lib.hid hYe
      clear hYe
      clear hxor
      go_loopw [3, 5] (fun r i wr => ∃ j : Nat, j ≤ 8 ∧ i = .int .i64 j ∧ r = .int .u32 (crcBits j Y : Nat) ∧ w = wr) (fun _ i _ => 8 - (RowKit.intOf i).toNat)
      case atStart => exact ⟨0, by omega, rfl, rfl, rfl⟩
      case round =>
        obtain ⟨j, hj, rfl, rfl, rfl⟩ := hrel
        by_cases hlt2 : j < 8
        · have hX : crcBits j Y < 4294967296 := crcBits_lt j hY
          have hst2 := crcBits_succ j Y
          generalize crcBits j Y = X at hX hst2 ⊢
          have HST2 := Lib.hid hst2
          clear hst2
          by_cases h1 : X % 2 = 1
          · have h1I : (X : Int) % 2 = 1 := by omega
            have hxo : bits .xor .u32 ((X : Int) / 2) 3988292384 = ((crcBit X : Nat) : Int) := by
              unfold crcBit crcP
              rw [if_pos h1, show (X : Int) / 2 = ((X / 2 : Nat) : Int) by omega]
              exact u32_xor_nat (X / 2) 3988292384 (by omega) (by decide)
            have HXO := Lib.hid hxo
            clear hxo
            go_wp2
            go_roundw
            case rel => exact ⟨j + 1, by omega, by go_num, by rw [HST2.out, ← HXO.out], trivial⟩
            case measure => simp [RowKit.intOf]; omega
          · have h1I : (X : Int) % 2 = 0 := by omega
            have hxo : (X : Int) / 2 = ((crcBit X : Nat) : Int) := by
              unfold crcBit
              rw [if_neg h1]; omega
            have HXO := Lib.hid hxo
            clear hxo
            go_wp2
            go_roundw
            case rel => exact ⟨j + 1, by omega, by go_num, by rw [HST2.out, ← HXO.out], trivial⟩
            case measure => simp [RowKit.intOf]; omega
        · obtain rfl : j = 8 := by omega
          go_wp2
          go_roundw
          case rel => exact ⟨k + 1, by omega, by go_num, by rw [HST.out]; unfold crcByte; rw [HY.out], trivial⟩
          case measure => simp [RowKit.intOf]; omega
    · obtain rfl : k = n := by omega
      rw [List.take_of_length_le (by rw [List.length_map]; omega)]
      have hr := HRES.out
      unfold sumB at hr
      have hlt3 : crcAll ones (xs.map UInt8.toNat) < 4294967296 := crcAll_lt _ (by decide) (fun c hc => by
        obtain ⟨x, _, rfl⟩ := List.mem_map.1 hc
        exact x.toNat_lt)
      generalize crcAll ones (xs.map UInt8.toNat) = R at hr hlt3 ⊢
      have hsub : (4294967295 : Int) - (R : Int) = ((res : Nat) : Int) := by
        rw [← hr, ones_sub hlt3]; omega
      have HSUB := Lib.hid hsub
      clear hsub
      go_wp2
      go_ret
      exact ⟨by rw [← HSUB.out]; rfl, rfl⟩
end Go.Proofs.YtmepaeahchiglaaGreatDoor
