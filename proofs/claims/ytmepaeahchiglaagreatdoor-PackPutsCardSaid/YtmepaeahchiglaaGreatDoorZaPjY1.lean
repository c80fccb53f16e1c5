/-
  layer 43: the reference's names. Conditions: a project of the size of a valid one. (Printed by pjref.py.)
-/
import Derived.Test.YtmepaeahchiglaaGreatDoorZaPjX
namespace Go.Proofs.YtmepaeahchiglaaGreatDoor
open Go.RowKit Go.Lib

theorem plain_len {α : Type} {f : α → List Value} {m : Nat} (h : ∀ x, (f x).length = m) {w : World} {B : Nat} : ∀ x cs, PlainC f w B x cs → cs.length = m := fun x cs e => by rw [show cs = f x from e]; exact h x
set_option linter.unusedSimpArgs false in
set_option linter.unusedVariables false in
set_option maxRecDepth 20000 in
set_option maxHeartbeats 8000000 in
theorem refNames_any (w : World) (B : Nat) (p : Pj) (cs : List Value) (hp : ProjC w B p cs) (hB : B ≤ w.heap.size) (hok : PjOk p) :
    Calls Tryz.prog 39 #[.agg cs.toArray] w (GivesB w (allB textB p.feats ++ (allB nmdB p.sounds ++ allB mkdB p.marks))) := by
  obtain ⟨v1, v2, v3, v4, v5, v6, v7, v8, rfl, q1, q2, q3, q4, q5, q6, q7, q8⟩ := hp
  obtain ⟨A1, m1, c1, rfl, e1⟩ := q1.form
  obtain ⟨A2, m2, c2, rfl, e2⟩ := q2.form
  obtain ⟨A3, m3, c3, rfl, e3⟩ := q3.form
  obtain ⟨A4, m4, c4, rfl, e4⟩ := q4.form
  obtain ⟨A5, m5, c5, rfl, e5⟩ := q5.form
  obtain ⟨A6, m6, c6, rfl, e6⟩ := q6.form
  obtain ⟨A7, m7, c7, rfl, e7⟩ := q7.form
  obtain ⟨A8, m8, c8, rfl, e8⟩ := q8.form
  have hm1 := q1.len.2; have hm2 := q2.len.2; have hm3 := q3.len.2
  unfold maxLen at hm1 hm2 hm3
  have n1 := hok.n1; have n2 := hok.n2; have n3 := hok.n3
  obtain ⟨o, ho⟩ : ∃ o, Obj.cells #[.slice A1 m1 c1, .slice A2 m2 c2, .slice A3 m3 c3, .slice A4 m4 c4, .slice A5 m5 c5, .slice A6 m6 c6, .slice A7 m7 c7, .slice A8 m8 c8] 33 = o := ⟨_, rfl⟩
  have hb0 := (Below.refl w.heap.size w).alloc (Nat.le_refl _) o
  have hbox : Blk (w.alloc o) w.heap.size 33 #[.slice A1 m1 c1, .slice A2 m2 c2, .slice A3 m3 c3, .slice A4 m4 c4, .slice A5 m5 c5, .slice A6 m6 c6, .slice A7 m7 c7, .slice A8 m8 c8] := by rw [← ho]; exact Blk.new w _ _
  have hlt1 : w.heap.size ≤ (w.alloc o).heap.size := by rw [World.size_alloc]; omega
  have hc0 := refCount_any m1 (w.alloc o) (by omega)
  have hkp := fun (W : World) (hW : Below w.heap.size w W) => fun (q : Addr) (hq : q.block < B) => hW.cell (p := q) (Nat.lt_of_lt_of_le hq hB)
  obtain ⟨ys, hys⟩ : ∃ ys, allB textB p.feats ++ (allB nmdB p.sounds ++ allB mkdB p.marks) = ys := ⟨_, rfl⟩
  rw [hys]
  have HO := Lib.hid ho; have HB0 := Lib.hid hb0; have HBOX := Lib.hid hbox; have HKP := Lib.hid hkp; have HYS := Lib.hid hys; have HOK := Lib.hid hok; have HC0 := Lib.hid hc0
  have HQ1 := Lib.hid q1; have HQ2 := Lib.hid q2; have HQ3 := Lib.hid q3
  have HN1 := Lib.hid e1; have HN2 := Lib.hid e2; have HN3 := Lib.hid e3
  have h1000 : m1 ≤ 1000 ∧ m2 ≤ 1000 ∧ m3 ≤ 1000 := by omega
  have k0 := hbox.cell 0; have k1 := hbox.cell 1; have k2 := hbox.cell 2; have k3 := hbox.cell 3; have k4 := hbox.cell 4; have k5 := hbox.cell 5; have k6 := hbox.cell 6; have k7 := hbox.cell 7
  simp only [List.getElem?_toArray, List.getElem?_cons_zero, List.getElem?_cons_succ] at k0 k1 k2 k3 k4 k5 k6 k7
  clear q1 q2 q3 q4 q5 q6 q7 q8 e1 e2 e3 e4 e5 e6 e7 e8 ho hb0 hbox hkp hys hok hc0 n1 n2 n3
  go_enter Tryz.func39, Tryz.ntmps39
  go_wp2_with (rw [HO.out])
  refine HC0.out.mono ?_
  rintro e w1 ⟨v1, rfl, ho1, hb1⟩
  have hst : St w w1 33 #[.slice A1 m1 c1, .slice A2 m2 c2, .slice A3 m3 c3, .slice A4 m4 c4, .slice A5 m5 c5, .slice A6 m6 c6, .slice A7 m7 c7, .slice A8 m8 c8] v1 (numB m1) := ⟨own_mono ho1 hlt1, HBOX.out.below hb1 HBOX.out.lt, HB0.out.trans (hb1.mono hlt1)⟩
  have HST := Lib.hid hst
  clear hst ho1 hb1 k0 k1 k2 k3 k4 k5 k6 k7
  obtain ⟨z0, hz0⟩ : ∃ z, numB m1 = z := ⟨_, rfl⟩
  have hlz0 : z0.length ≤ 5 := by rw [← hz0]; exact numB_len m1
  have hst := HST.out
  rw [hz0] at hst
  have HST := Lib.hid hst; have HZ0 := Lib.hid hz0
  have k0 := hst.box.cell 0; have k1 := hst.box.cell 1; have k2 := hst.box.cell 2; have k3 := hst.box.cell 3; have k4 := hst.box.cell 4; have k5 := hst.box.cell 5; have k6 := hst.box.cell 6; have k7 := hst.box.cell 7
  simp only [List.getElem?_toArray, List.getElem?_cons_zero, List.getElem?_cons_succ] at k0 k1 k2 k3 k4 k5 k6 k7
  clear hst hz0
  go_wp2
  have HP1 := Lib.hid (part_len (put := textB) (l := p.feats) (m := 1005) (fun x hx => by have := textB_len x; have := HOK.out.o1 x hx; omega))
  clear k0 k1 k2 k3 k4 k5 k6 k7
  go_loopw [3, 4] (fun v i wr => ∃ k : Nat, k ≤ m1 ∧ i = .int .i64 k ∧ St w wr 33 #[.slice A1 m1 c1, .slice A2 m2 c2, .slice A3 m3 c3, .slice A4 m4 c4, .slice A5 m5 c5, .slice A6 m6 c6, .slice A7 m7 c7, .slice A8 m8 c8] v (z0 ++ (p.feats.take k).flatMap textB)) (fun _ i _ => m1 - (RowKit.intOf i).toNat)
  case atStart => exact ⟨0, by omega, rfl, by simpa using HST.out⟩
  case round =>
    obtain ⟨k, hk, rfl, hst⟩ := hrel
    obtain ⟨V1, hV1⟩ : ∃ W, W = wr := ⟨_, rfl⟩
    subst hV1
    have k0 := hst.box.cell 0
    have k1 := hst.box.cell 1
    have k2 := hst.box.cell 2
    have k3 := hst.box.cell 3
    have k4 := hst.box.cell 4
    have k5 := hst.box.cell 5
    have k6 := hst.box.cell 6
    have k7 := hst.box.cell 7
    simp only [List.getElem?_toArray, List.getElem?_cons_zero, List.getElem?_cons_succ] at k0 k1 k2 k3 k4 k5 k6 k7
    have HR := Lib.hid hst
    clear hst
    by_cases hlt : k < m1
    · have hkl : k < p.feats.length := by have := HN1.out; omega
      have hkI : (k : Int) < (m1 : Int) := by omega
      have hk0 : (0 : Int) ≤ (k : Int) := by omega
      obtain ⟨ad, cs, hA, had, hP, hcc⟩ := slC_cells (plain_len (f := fun s : ByteArray => [Value.string s]) (m := 1) fun _ => rfl) HQ1.out hkl
      have hadb : ∀ m, (ad.add m).block < B := fun m => by rw [add_block_]; exact had
      have hlen : (z0 ++ (p.feats.take k).flatMap textB).length ≤ 1000000000 := by
        have h1 := HP1.out k
        have h2 := HN1.out
        rw [List.length_append]
        omega
      have hts := allB_next textB p.feats z0 k hkl
      obtain ⟨y, hy⟩ : ∃ y, z0 ++ (p.feats.take k).flatMap textB = y := ⟨_, rfl⟩
      have hr := HR.out
      rw [hy] at hts hlen hr
      have HR2 := Lib.hid hr
      clear HR hr hy
      subst hA
      have hokx := HOK.out.o1 _ (List.getElem_mem hkl)
      generalize p.feats[k] = x at *
      obtain rfl : cs = [.string x] := hP
      have e0 := hcc 0 _ rfl
      rw [Nat.mul_one, Nat.add_zero] at e0
      clear hcc hlt
      have f0 := (HKP.out V1 HR2.out.bel (ad.add k) (hadb _)).trans e0
      have HTS := Lib.hid hts
      clear hts
      have hl1 := textB_len x
      have hc2 := refText_any x V1 (by omega)
      have HC2 := Lib.hid hc2
      clear hc2
      go_wp2_with fail
      refine HC2.out.mono ?_
      rintro e w2 ⟨v2, rfl, ho2, hb2⟩
      obtain ⟨Aw2, cw2, rfl, _, _⟩ := ownsRow_form ho2
      have HST2 := Lib.hid (HR2.out.call hb2); have HO2 := Lib.hid ho2
      clear ho2 hb2 k0 k1 k2 k3 k4 k5 k6 k7 f0
      go_wp2_with (at_builtin; refine St.append rfl _ _ rfl HST2.out (by decide) rfl _ _ _ _ _ rfl HO2.out (by omega) ?_; intro x2 W2 hs2; have k0 := hs2.box.cell 0; have k1 := hs2.box.cell 1; have k2 := hs2.box.cell 2; have k3 := hs2.box.cell 3; have k4 := hs2.box.cell 4; have k5 := hs2.box.cell 5; have k6 := hs2.box.cell 6; have k7 := hs2.box.cell 7; simp only [List.getElem?_toArray, List.getElem?_cons_zero, List.getElem?_cons_succ] at k0 k1 k2 k3 k4 k5 k6 k7; have f0 := (HKP.out W2 hs2.bel (ad.add k) (hadb _)).trans e0; have HS2 := Lib.hid hs2; clear hs2)
      go_roundw
      case rel => exact ⟨k + 1, by omega, by go_num, by rw [HTS.out]; exact HS2.out⟩
      case measure => simp [RowKit.intOf]; omega
    · obtain rfl : m1 = k := by omega
      have hx := HR.out
      rw [List.take_of_length_le (by rw [HN1.out]; exact Nat.le_refl _)] at hx
      have hlz : (z0 ++ p.feats.flatMap textB).length ≤ 1000000000 := by
        have h1 := HP1.out m1
        have h2 := HN1.out
        rw [List.take_of_length_le (by rw [h2]; exact Nat.le_refl _)] at h1
        rw [List.length_append]
        omega
      obtain ⟨z1, hz1⟩ : ∃ z, z0 ++ p.feats.flatMap textB = z := ⟨_, rfl⟩
      rw [hz1] at hx hlz
      have HZ1 := Lib.hid hz1; have HX := Lib.hid hx; have HLZ1 := Lib.hid hlz
      clear hx hz1 hlz HR hlt
      have hl0 := numB_len m2
      have hlq := HLZ1.out
      have hc3 := refCount_any m2 V1 (by omega)
      have HC3 := Lib.hid hc3
      clear hc3
      go_wp2_with fail
      refine HC3.out.mono ?_
      rintro e w3 ⟨v3, rfl, ho3, hb3⟩
      obtain ⟨Aw3, cw3, rfl, _, _⟩ := ownsRow_form ho3
      have HST3 := Lib.hid (HX.out.call hb3); have HO3 := Lib.hid ho3
      clear ho3 hb3 k0 k1 k2 k3 k4 k5 k6 k7
      go_wp2_with (at_builtin; refine St.append rfl _ _ rfl HST3.out (by decide) rfl _ _ _ _ _ rfl HO3.out (by omega) ?_; intro x3 W3 hs3; have k0 := hs3.box.cell 0; have k1 := hs3.box.cell 1; have k2 := hs3.box.cell 2; have k3 := hs3.box.cell 3; have k4 := hs3.box.cell 4; have k5 := hs3.box.cell 5; have k6 := hs3.box.cell 6; have k7 := hs3.box.cell 7; simp only [List.getElem?_toArray, List.getElem?_cons_zero, List.getElem?_cons_succ] at k0 k1 k2 k3 k4 k5 k6 k7; have HS3 := Lib.hid hs3; clear hs3)
      obtain ⟨zb, hzb⟩ : ∃ y, z1 ++ numB m2 = y := ⟨_, rfl⟩
      have hlb : zb.length ≤ 1000000010 := by rw [← hzb, List.length_append]; omega
      have hst := HS3.out
      rw [hzb] at hst
      have HSTb := Lib.hid hst; have HZb := Lib.hid hzb
      clear hst hzb hlq
      have HP4 := Lib.hid (part_len (put := nmdB) (l := p.sounds) (m := 1015) (fun x hx => by have := nmdB_len x; have := (HOK.out.o2 x hx).1; omega))
      clear k0 k1 k2 k3 k4 k5 k6 k7
      go_loopw [3, 5] (fun v i wr => ∃ k : Nat, k ≤ m2 ∧ i = .int .i64 k ∧ St w wr 33 #[.slice A1 m1 c1, .slice A2 m2 c2, .slice A3 m3 c3, .slice A4 m4 c4, .slice A5 m5 c5, .slice A6 m6 c6, .slice A7 m7 c7, .slice A8 m8 c8] v (zb ++ (p.sounds.take k).flatMap nmdB)) (fun _ i _ => m2 - (RowKit.intOf i).toNat)
      case atStart => exact ⟨0, by omega, rfl, by simpa using HSTb.out⟩
      case round =>
        obtain ⟨k, hk, rfl, hst⟩ := hrel
        obtain ⟨V4, hV4⟩ : ∃ W, W = wr := ⟨_, rfl⟩
        subst hV4
        have k0 := hst.box.cell 0
        have k1 := hst.box.cell 1
        have k2 := hst.box.cell 2
        have k3 := hst.box.cell 3
        have k4 := hst.box.cell 4
        have k5 := hst.box.cell 5
        have k6 := hst.box.cell 6
        have k7 := hst.box.cell 7
        simp only [List.getElem?_toArray, List.getElem?_cons_zero, List.getElem?_cons_succ] at k0 k1 k2 k3 k4 k5 k6 k7
        have HR := Lib.hid hst
        clear hst
        by_cases hlt : k < m2
        · have hkl : k < p.sounds.length := by have := HN2.out; omega
          have hkI : (k : Int) < (m2 : Int) := by omega
          have hk0 : (0 : Int) ≤ (k : Int) := by omega
          obtain ⟨ad, cs, hA, had, hP, hcc⟩ := slC_cells (plain_len (f := namC) (m := 3) fun _ => rfl) HQ2.out hkl
          have hadb : ∀ m, (ad.add m).block < B := fun m => by rw [add_block_]; exact had
          have hlen : (zb ++ (p.sounds.take k).flatMap nmdB).length ≤ 1100000000 := by
            have h1 := HP4.out k
            have h2 := HN2.out
            rw [List.length_append]
            omega
          have hts := allB_next nmdB p.sounds zb k hkl
          obtain ⟨y, hy⟩ : ∃ y, zb ++ (p.sounds.take k).flatMap nmdB = y := ⟨_, rfl⟩
          have hr := HR.out
          rw [hy] at hts hlen hr
          have HR2 := Lib.hid hr
          clear HR hr hy
          subst hA
          have hokx := HOK.out.o2 _ (List.getElem_mem hkl)
          generalize p.sounds[k] = x at *
          obtain ⟨sy, sv, sa⟩ := x
          obtain rfl : cs = [.string sy, .int .u32 sv, .int .u32 sa] := hP
          have e0 := hcc 0 _ rfl
          have e1 := hcc 1 _ rfl
          have e2 := hcc 2 _ rfl
          rw [Nat.add_zero] at e0
          rw [add_next ad (k * 3) 0] at e1
          rw [add_next ad (k * 3) 1] at e2
          simp only [] at hokx
          clear hcc hlt
          have f0 := (HKP.out V4 HR2.out.bel (ad.add (k * 3)) (hadb _)).trans e0
          have f1 := (HKP.out V4 HR2.out.bel ⟨(ad.add (k * 3)).block, _, none⟩ (hadb _)).trans e1
          have f2 := (HKP.out V4 HR2.out.bel ⟨(ad.add (k * 3)).block, _, none⟩ (hadb _)).trans e2
          have HTS := Lib.hid hts
          clear hts
          have hl1 := textB_len sy
          have hl2 := sndB_len (sv, sa)
          have hk1 := hokx.1
          have HOS := Lib.hid hokx.2
          clear hokx
          have hc5 := refText_any sy V4 (by omega)
          have HC5 := Lib.hid hc5
          clear hc5
          go_wp2_with fail
          refine HC5.out.mono ?_
          rintro e w5 ⟨v5, rfl, ho5, hb5⟩
          obtain ⟨Aw5, cw5, rfl, _, _⟩ := ownsRow_form ho5
          have HST5 := Lib.hid (HR2.out.call hb5); have HO5 := Lib.hid ho5
          clear ho5 hb5 k0 k1 k2 k3 k4 k5 k6 k7 f0 f1 f2
          go_wp2_with (at_builtin; refine St.append rfl _ _ rfl HST5.out (by decide) rfl _ _ _ _ _ rfl HO5.out (by omega) ?_; intro x5 W5 hs5; have k0 := hs5.box.cell 0; have k1 := hs5.box.cell 1; have k2 := hs5.box.cell 2; have k3 := hs5.box.cell 3; have k4 := hs5.box.cell 4; have k5 := hs5.box.cell 5; have k6 := hs5.box.cell 6; have k7 := hs5.box.cell 7; simp only [List.getElem?_toArray, List.getElem?_cons_zero, List.getElem?_cons_succ] at k0 k1 k2 k3 k4 k5 k6 k7; have f0 := (HKP.out W5 hs5.bel (ad.add (k * 3)) (hadb _)).trans e0; have f1 := (HKP.out W5 hs5.bel ⟨(ad.add (k * 3)).block, _, none⟩ (hadb _)).trans e1; have f2 := (HKP.out W5 hs5.bel ⟨(ad.add (k * 3)).block, _, none⟩ (hadb _)).trans e2; have HS5 := Lib.hid hs5; clear hs5)
          have hc6 := refSound_any (sv, sa) W5 HOS.out
          have HC6 := Lib.hid hc6
          clear hc6
          go_wp2_with fail
          refine HC6.out.mono ?_
          rintro e w6 ⟨v6, rfl, ho6, hb6⟩
          obtain ⟨Aw6, cw6, rfl, _, _⟩ := ownsRow_form ho6
          have HST6 := Lib.hid (HS5.out.call hb6); have HO6 := Lib.hid ho6
          clear ho6 hb6 k0 k1 k2 k3 k4 k5 k6 k7 f0 f1 f2
          go_wp2_with (at_builtin; refine St.append rfl _ _ rfl HST6.out (by decide) rfl _ _ _ _ _ rfl HO6.out (by rw [List.length_append]; omega) ?_; intro x6 W6 hs6; have k0 := hs6.box.cell 0; have k1 := hs6.box.cell 1; have k2 := hs6.box.cell 2; have k3 := hs6.box.cell 3; have k4 := hs6.box.cell 4; have k5 := hs6.box.cell 5; have k6 := hs6.box.cell 6; have k7 := hs6.box.cell 7; simp only [List.getElem?_toArray, List.getElem?_cons_zero, List.getElem?_cons_succ] at k0 k1 k2 k3 k4 k5 k6 k7; have f0 := (HKP.out W6 hs6.bel (ad.add (k * 3)) (hadb _)).trans e0; have f1 := (HKP.out W6 hs6.bel ⟨(ad.add (k * 3)).block, _, none⟩ (hadb _)).trans e1; have f2 := (HKP.out W6 hs6.bel ⟨(ad.add (k * 3)).block, _, none⟩ (hadb _)).trans e2; have HS6 := Lib.hid hs6; clear hs6)
          go_roundw
          case rel => exact ⟨k + 1, by omega, by go_num, by rw [HTS.out]; have h := HS6.out; rw [List.append_assoc] at h; exact h⟩
          case measure => simp [RowKit.intOf]; omega
        · obtain rfl : m2 = k := by omega
          have hx := HR.out
          rw [List.take_of_length_le (by rw [HN2.out]; exact Nat.le_refl _)] at hx
          have hlz : (zb ++ p.sounds.flatMap nmdB).length ≤ 1100000000 := by
            have h1 := HP4.out m2
            have h2 := HN2.out
            rw [List.take_of_length_le (by rw [h2]; exact Nat.le_refl _)] at h1
            rw [List.length_append]
            omega
          obtain ⟨z4, hz4⟩ : ∃ z, zb ++ p.sounds.flatMap nmdB = z := ⟨_, rfl⟩
          rw [hz4] at hx hlz
          have HZ4 := Lib.hid hz4; have HX := Lib.hid hx; have HLZ4 := Lib.hid hlz
          clear hx hz4 hlz HR hlt
          have hl0 := numB_len m3
          have hlq := HLZ4.out
          have hc7 := refCount_any m3 V4 (by omega)
          have HC7 := Lib.hid hc7
          clear hc7
          go_wp2_with fail
          refine HC7.out.mono ?_
          rintro e w7 ⟨v7, rfl, ho7, hb7⟩
          obtain ⟨Aw7, cw7, rfl, _, _⟩ := ownsRow_form ho7
          have HST7 := Lib.hid (HX.out.call hb7); have HO7 := Lib.hid ho7
          clear ho7 hb7 k0 k1 k2 k3 k4 k5 k6 k7
          go_wp2_with (at_builtin; refine St.append rfl _ _ rfl HST7.out (by decide) rfl _ _ _ _ _ rfl HO7.out (by omega) ?_; intro x7 W7 hs7; have k0 := hs7.box.cell 0; have k1 := hs7.box.cell 1; have k2 := hs7.box.cell 2; have k3 := hs7.box.cell 3; have k4 := hs7.box.cell 4; have k5 := hs7.box.cell 5; have k6 := hs7.box.cell 6; have k7 := hs7.box.cell 7; simp only [List.getElem?_toArray, List.getElem?_cons_zero, List.getElem?_cons_succ] at k0 k1 k2 k3 k4 k5 k6 k7; have HS7 := Lib.hid hs7; clear hs7)
          obtain ⟨zc, hzc⟩ : ∃ y, z4 ++ numB m3 = y := ⟨_, rfl⟩
          have hlc : zc.length ≤ 1100000010 := by rw [← hzc, List.length_append]; omega
          have hst := HS7.out
          rw [hzc] at hst
          have HSTc := Lib.hid hst; have HZc := Lib.hid hzc
          clear hst hzc hlq
          have HP8 := Lib.hid (part_len (put := mkdB) (l := p.marks) (m := 1020) (fun x hx => by have := mkdB_len x; have := (HOK.out.o3 x hx).1; omega))
          clear k0 k1 k2 k3 k4 k5 k6 k7
          go_loopw [3, 6] (fun v i wr => ∃ k : Nat, k ≤ m3 ∧ i = .int .i64 k ∧ St w wr 33 #[.slice A1 m1 c1, .slice A2 m2 c2, .slice A3 m3 c3, .slice A4 m4 c4, .slice A5 m5 c5, .slice A6 m6 c6, .slice A7 m7 c7, .slice A8 m8 c8] v (zc ++ (p.marks.take k).flatMap mkdB)) (fun _ i _ => m3 - (RowKit.intOf i).toNat)
          case atStart => exact ⟨0, by omega, rfl, by simpa using HSTc.out⟩
          case round =>
            obtain ⟨k, hk, rfl, hst⟩ := hrel
            obtain ⟨V8, hV8⟩ : ∃ W, W = wr := ⟨_, rfl⟩
            subst hV8
            have k0 := hst.box.cell 0
            have k1 := hst.box.cell 1
            have k2 := hst.box.cell 2
            have k3 := hst.box.cell 3
            have k4 := hst.box.cell 4
            have k5 := hst.box.cell 5
            have k6 := hst.box.cell 6
            have k7 := hst.box.cell 7
            simp only [List.getElem?_toArray, List.getElem?_cons_zero, List.getElem?_cons_succ] at k0 k1 k2 k3 k4 k5 k6 k7
            have HR := Lib.hid hst
            clear hst
            by_cases hlt : k < m3
            · have hkl : k < p.marks.length := by have := HN3.out; omega
              have hkI : (k : Int) < (m3 : Int) := by omega
              have hk0 : (0 : Int) ≤ (k : Int) := by omega
              obtain ⟨ad, cs, hA, had, hP, hcc⟩ := slC_cells (plain_len (f := markC) (m := 4) fun _ => rfl) HQ3.out hkl
              have hadb : ∀ m, (ad.add m).block < B := fun m => by rw [add_block_]; exact had
              have hlen : (zc ++ (p.marks.take k).flatMap mkdB).length ≤ 1200000000 := by
                have h1 := HP8.out k
                have h2 := HN3.out
                rw [List.length_append]
                omega
              have hts := allB_next mkdB p.marks zc k hkl
              obtain ⟨y, hy⟩ : ∃ y, zc ++ (p.marks.take k).flatMap mkdB = y := ⟨_, rfl⟩
              have hr := HR.out
              rw [hy] at hts hlen hr
              have HR2 := Lib.hid hr
              clear HR hr hy
              subst hA
              have hokx := HOK.out.o3 _ (List.getElem_mem hkl)
              generalize p.marks[k] = x at *
              obtain ⟨sy, cl, sv, sa⟩ := x
              obtain rfl : cs = [.string sy, .int .u32 cl, .int .u32 sv, .int .u32 sa] := hP
              have e0 := hcc 0 _ rfl
              have e1 := hcc 1 _ rfl
              have e2 := hcc 2 _ rfl
              have e3 := hcc 3 _ rfl
              rw [Nat.add_zero] at e0
              rw [add_next ad (k * 4) 0] at e1
              rw [add_next ad (k * 4) 1] at e2
              rw [add_next ad (k * 4) 2] at e3
              simp only [] at hokx
              clear hcc hlt
              have f0 := (HKP.out V8 HR2.out.bel (ad.add (k * 4)) (hadb _)).trans e0
              have f1 := (HKP.out V8 HR2.out.bel ⟨(ad.add (k * 4)).block, _, none⟩ (hadb _)).trans e1
              have f2 := (HKP.out V8 HR2.out.bel ⟨(ad.add (k * 4)).block, _, none⟩ (hadb _)).trans e2
              have f3 := (HKP.out V8 HR2.out.bel ⟨(ad.add (k * 4)).block, _, none⟩ (hadb _)).trans e3
              have HTS := Lib.hid hts
              clear hts
              have hl1 := textB_len sy
              have hl2 := sndB_len (sv, sa)
              have hl3 := numB_len cl
              have hk1 := hokx.1
              have HOS := Lib.hid hokx.2
              clear hokx
              have hc9 := refText_any sy V8 (by omega)
              have HC9 := Lib.hid hc9
              clear hc9
              go_wp2_with fail
              refine HC9.out.mono ?_
              rintro e w9 ⟨v9, rfl, ho9, hb9⟩
              obtain ⟨Aw9, cw9, rfl, _, _⟩ := ownsRow_form ho9
              have HST9 := Lib.hid (HR2.out.call hb9); have HO9 := Lib.hid ho9
              clear ho9 hb9 k0 k1 k2 k3 k4 k5 k6 k7 f0 f1 f2 f3
              go_wp2_with (at_builtin; refine St.append rfl _ _ rfl HST9.out (by decide) rfl _ _ _ _ _ rfl HO9.out (by omega) ?_; intro x9 W9 hs9; have k0 := hs9.box.cell 0; have k1 := hs9.box.cell 1; have k2 := hs9.box.cell 2; have k3 := hs9.box.cell 3; have k4 := hs9.box.cell 4; have k5 := hs9.box.cell 5; have k6 := hs9.box.cell 6; have k7 := hs9.box.cell 7; simp only [List.getElem?_toArray, List.getElem?_cons_zero, List.getElem?_cons_succ] at k0 k1 k2 k3 k4 k5 k6 k7; have f0 := (HKP.out W9 hs9.bel (ad.add (k * 4)) (hadb _)).trans e0; have f1 := (HKP.out W9 hs9.bel ⟨(ad.add (k * 4)).block, _, none⟩ (hadb _)).trans e1; have f2 := (HKP.out W9 hs9.bel ⟨(ad.add (k * 4)).block, _, none⟩ (hadb _)).trans e2; have f3 := (HKP.out W9 hs9.bel ⟨(ad.add (k * 4)).block, _, none⟩ (hadb _)).trans e3; have HS9 := Lib.hid hs9; clear hs9)
              have hc10 := refNum_any cl W9 HOS.out.1
              have HC10 := Lib.hid hc10
              clear hc10
              go_wp2_with fail
              refine HC10.out.mono ?_
              rintro e w10 ⟨v10, rfl, ho10, hb10⟩
              obtain ⟨Aw10, cw10, rfl, _, _⟩ := ownsRow_form ho10
              have HST10 := Lib.hid (HS9.out.call hb10); have HO10 := Lib.hid ho10
              clear ho10 hb10 k0 k1 k2 k3 k4 k5 k6 k7 f0 f1 f2 f3
              go_wp2_with (at_builtin; refine St.append rfl _ _ rfl HST10.out (by decide) rfl _ _ _ _ _ rfl HO10.out (by rw [List.length_append]; omega) ?_; intro x10 W10 hs10; have k0 := hs10.box.cell 0; have k1 := hs10.box.cell 1; have k2 := hs10.box.cell 2; have k3 := hs10.box.cell 3; have k4 := hs10.box.cell 4; have k5 := hs10.box.cell 5; have k6 := hs10.box.cell 6; have k7 := hs10.box.cell 7; simp only [List.getElem?_toArray, List.getElem?_cons_zero, List.getElem?_cons_succ] at k0 k1 k2 k3 k4 k5 k6 k7; have f0 := (HKP.out W10 hs10.bel (ad.add (k * 4)) (hadb _)).trans e0; have f1 := (HKP.out W10 hs10.bel ⟨(ad.add (k * 4)).block, _, none⟩ (hadb _)).trans e1; have f2 := (HKP.out W10 hs10.bel ⟨(ad.add (k * 4)).block, _, none⟩ (hadb _)).trans e2; have f3 := (HKP.out W10 hs10.bel ⟨(ad.add (k * 4)).block, _, none⟩ (hadb _)).trans e3; have HS10 := Lib.hid hs10; clear hs10)
              have hc11 := refSound_any (sv, sa) W10 HOS.out.2
              have HC11 := Lib.hid hc11
              clear hc11
              go_wp2_with fail
              refine HC11.out.mono ?_
              rintro e w11 ⟨v11, rfl, ho11, hb11⟩
              obtain ⟨Aw11, cw11, rfl, _, _⟩ := ownsRow_form ho11
              have HST11 := Lib.hid (HS10.out.call hb11); have HO11 := Lib.hid ho11
              clear ho11 hb11 k0 k1 k2 k3 k4 k5 k6 k7 f0 f1 f2 f3
              go_wp2_with (at_builtin; refine St.append rfl _ _ rfl HST11.out (by decide) rfl _ _ _ _ _ rfl HO11.out (by rw [List.length_append, List.length_append]; omega) ?_; intro x11 W11 hs11; have k0 := hs11.box.cell 0; have k1 := hs11.box.cell 1; have k2 := hs11.box.cell 2; have k3 := hs11.box.cell 3; have k4 := hs11.box.cell 4; have k5 := hs11.box.cell 5; have k6 := hs11.box.cell 6; have k7 := hs11.box.cell 7; simp only [List.getElem?_toArray, List.getElem?_cons_zero, List.getElem?_cons_succ] at k0 k1 k2 k3 k4 k5 k6 k7; have f0 := (HKP.out W11 hs11.bel (ad.add (k * 4)) (hadb _)).trans e0; have f1 := (HKP.out W11 hs11.bel ⟨(ad.add (k * 4)).block, _, none⟩ (hadb _)).trans e1; have f2 := (HKP.out W11 hs11.bel ⟨(ad.add (k * 4)).block, _, none⟩ (hadb _)).trans e2; have f3 := (HKP.out W11 hs11.bel ⟨(ad.add (k * 4)).block, _, none⟩ (hadb _)).trans e3; have HS11 := Lib.hid hs11; clear hs11)
              go_roundw
              case rel => exact ⟨k + 1, by omega, by go_num, by rw [HTS.out]; have h := HS11.out; rw [List.append_assoc, List.append_assoc] at h; exact h⟩
              case measure => simp [RowKit.intOf]; omega
            · obtain rfl : m3 = k := by omega
              have hx := HR.out
              rw [List.take_of_length_le (by rw [HN3.out]; exact Nat.le_refl _)] at hx
              have hlz : (zc ++ p.marks.flatMap mkdB).length ≤ 1200000000 := by
                have h1 := HP8.out m3
                have h2 := HN3.out
                rw [List.take_of_length_le (by rw [h2]; exact Nat.le_refl _)] at h1
                rw [List.length_append]
                omega
              obtain ⟨z8, hz8⟩ : ∃ z, zc ++ p.marks.flatMap mkdB = z := ⟨_, rfl⟩
              rw [hz8] at hx hlz
              have HZ8 := Lib.hid hz8; have HX := Lib.hid hx; have HLZ8 := Lib.hid hlz
              clear hx hz8 hlz HR hlt
              go_wp2
              go_ret
              have e : z8 = ys := by
                rw [← HYS.out, ← HZ8.out, ← HZc.out, ← HZ4.out, ← HZb.out, ← HZ1.out]
                unfold allB
                rw [← HN1.out, ← HN2.out, ← HN3.out, HZ0.out]
                simp only [List.append_assoc]
              exact ⟨_, rfl, by rw [← e]; exact HX.out.own, HX.out.bel⟩
end Go.Proofs.YtmepaeahchiglaaGreatDoor
