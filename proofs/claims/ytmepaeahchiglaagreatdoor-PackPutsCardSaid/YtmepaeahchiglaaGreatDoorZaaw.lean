/-
  layer 43: the reference's text. Conditions: a name of the reach.
-/
import Derived.Test.YtmepaeahchiglaaGreatDoorZaad
import Derived.Test.YtmepaeahchiglaaGreatDoorZaab
import Derived.Test.YtmepaeahchiglaaGreatDoorZaau
import Derived.Test.YtmepaeahchiglaaGreatDoorZaPkRp
import Derived.Test.YtmepaeahchiglaaGreatDoorZaao
namespace Go.Proofs.YtmepaeahchiglaaGreatDoor
open Go.RowKit Go.Lib

theorem reads_text (w : World) (t : TypeId) (s : ByteArray) (cap : Nat) (fr : Nat × Nat) : Reads (w.alloc (.cells (bytesRow s cap) t fr)) (w.heap.size + 1) 1 (some ⟨w.heap.size, 0, none⟩) s.size ((sbytes s).map bv) := by
  have hl : (sbytes s).length = s.size := by unfold sbytes; rw [List.length_map]; exact Array.length_toList
  refine ⟨by simpa using hl, fun _ => ⟨_, rfl, Nat.lt_succ_self _, fun j u hu => ?_⟩⟩
  rw [add_at, cell_of_row _ _ _ _ t fr (heap_alloc_new w _), ← Array.getElem?_toList]
  have hj : j < (sbytes s).length := by have := (List.getElem?_eq_some_iff.1 hu).1; simpa using this
  have e : (bytesRow s cap).toList = (sbytes s).map bv ++ (Array.replicate (cap - s.size) (Value.int .u8 0)).toList := by
    unfold bytesRow sbytes
    rw [Array.toList_append, Array.toList_map, List.map_map]
    rfl
  rw [e, List.getElem?_append_left (by simpa using hj)]
  exact hu
set_option maxRecDepth 20000 in
set_option maxHeartbeats 1000000 in
theorem refText_any (s : ByteArray) (w : World) (hs : s.size ≤ 1000000000) : Calls Tryz.prog 43 #[.string s] w (GivesB w (textB s)) := by
  obtain ⟨i0, hi, hz0, hz1, hz2⟩ := info_parts (show (Tryz.prog.info? 5).map (fun i => (i.zero, i.size, i.bytes)) = some (some (.int .u8 0), 1, 1) by kernel_rfl)
  have hcn := refCount_any s.size w (by omega)
  have hl := numB_len s.size
  have hsl : (sbytes s).length = s.size := by unfold sbytes; rw [List.length_map]; exact Array.length_toList
  show Calls _ _ _ _ (GivesB w (numB s.size ++ sbytes s))
  have HCN := Lib.hid hcn; have HSL := Lib.hid hsl
  clear hcn hsl
  have hrt := fun (W : World) => reads_text W.drew 5 s
  have HRT := Lib.hid hrt
  clear hrt
  have hcv := fun (W : World) => run_bytes_of_string (P := Tryz.prog) W 9 36 5 s Tryz.underlying9 Tryz.underlying36 Tryz.underlying5
  generalize numB s.size = ys at *
  unfold GivesB
  go_enter Tryz.func43, Tryz.ntmps43
  go_wp2_with fail
  refine HCN.out.mono ?_
  rintro e w1 ⟨v1, rfl, ho1, hb1⟩
  have HO1 := Lib.hid ho1; have HB1 := Lib.hid hb1
  clear ho1 hb1
  go_wp2_with (at_builtin; refine wpList_append_any _ rfl _ _ _ rfl w.heap.size 5 i0 (.int .u8 0) 1 1 Tryz.underlying36 hi hz0 hz1 hz2 rfl (by decide) _ _ _ rfl (World.ownsRow.alloc (w := w1.drew) HO1.out _) (w1.heap.size + 1) _ _ _ ((sbytes s).map bv) rfl (HRT.out w1 _ _) (bv_one _) (by unfold maxLen; omega) (by omega) (by have := HB1.out.size; simp; omega) ?_; intro v2 w2 hown2 hgrow2 _; have HB2 := Lib.hid ((HB1.out.drew.alloc (by have := HB1.out.size; simpa using this) _).grown hgrow2 (by have := HB1.out.size; simp; omega) (fun g hg => (HO1.out.lt g hg).1)); have HO2 := Lib.hid hown2; clear hown2 hgrow2)
  go_ret
  exact ⟨_, rfl, by rw [List.length_append, HSL.out, List.map_append]; exact HO2.out, HB2.out⟩
end Go.Proofs.YtmepaeahchiglaaGreatDoor
namespace Go.Proofs.YtmepaeahchiglaaGreatDoor
open Go.RowKit Go.Lib

set_option maxRecDepth 20000 in
set_option maxHeartbeats 8000000 in
theorem refLawB_any (w : World) (B : Nat) (l : Lw) (cs : List Value) (hl : LawC w B l cs) (hB : B ≤ w.heap.size) (hok : okLaw l) :
    Calls Tryz.prog 104 #[.agg cs.toArray] w (GivesB w (lawB l)) := by
  obtain ⟨i0, hi0, hz0, hz1, hz3⟩ := info_parts (show (Tryz.prog.info? 5).map (fun i => (i.zero, i.size, i.bytes)) = some (some (.int .u8 0), 1, 1) by kernel_rfl)
  obtain ⟨k1, s1, n1, lo1, hi1, A1, m1, c1, k2, s2, n2, lo2, hi2, A2, m2, c2, A3, c3, A4, c4, rfl, -, -, -, -, hs3, -, -, -⟩ := hl.form
  obtain ⟨nm, left, right, ifs, outs, mode⟩ := l
  obtain ⟨hnm, ⟨hpl, hsl⟩, ⟨hpr, hsr⟩, hif, hou, hok4, hmo, hmo2⟩ := hok
  simp only at hnm hpl hsl hpr hsr hif hou hok4 hmo hmo2 hs3 ⊢
  have hst := (Below.refl w.heap.size w).alloc (Nat.le_refl _) (.cells #[.string nm, .int .i64 k1, .int .u32 s1.1, .int .u32 s1.2, .bool n1, .int .i64 lo1, .int .i64 hi1, .slice A1 m1 c1, .int .i64 k2, .int .u32 s2.1, .int .u32 s2.2, .bool n2, .int .i64 lo2, .int .i64 hi2, .slice A2 m2 c2, .slice A3 ifs.length c3, .slice A4 outs.length c4, .int .i64 mode] 62)
  have hbox := Blk.new w 62 #[.string nm, .int .i64 k1, .int .u32 s1.1, .int .u32 s1.2, .bool n1, .int .i64 lo1, .int .i64 hi1, .slice A1 m1 c1, .int .i64 k2, .int .u32 s2.1, .int .u32 s2.2, .bool n2, .int .i64 lo2, .int .i64 hi2, .slice A2 m2 c2, .slice A3 ifs.length c3, .slice A4 outs.length c4, .int .i64 mode]
  have hl0 := hl.below (hst.mono hB)
  obtain ⟨Z0, hZ0⟩ : ∃ Z, w.alloc (.cells #[.string nm, .int .i64 k1, .int .u32 s1.1, .int .u32 s1.2, .bool n1, .int .i64 lo1, .int .i64 hi1, .slice A1 m1 c1, .int .i64 k2, .int .u32 s2.1, .int .u32 s2.2, .bool n2, .int .i64 lo2, .int .i64 hi2, .slice A2 m2 c2, .slice A3 ifs.length c3, .slice A4 outs.length c4, .int .i64 mode] 62) = Z := ⟨_, rfl⟩
  rw [hZ0] at hst hbox hl0
  have hsz0 := hbox.lt
  have hpp := fun W (hW : Below Z0.heap.size Z0 W) => law_parts (hl0.below (hW.mono (Nat.le_of_lt (Nat.lt_of_le_of_lt hB hsz0))))
  have hcl := fun W (hW : Below Z0.heap.size Z0 W) => refPat_any 1000 left k1 s1 n1 lo1 hi1 A1 m1 c1 W B (by omega) (by omega) hpl (hpp W hW).1 (by have := hW.size; omega)
  have hcr := fun W (hW : Below Z0.heap.size Z0 W) => refPat_any 1000 right k2 s2 n2 lo2 hi2 A2 m2 c2 W B (by omega) (by omega) hpr (hpp W hW).2.1 (by have := hW.size; omega)
  have hcw := fun W (hW : Below Z0.heap.size Z0 W) => refWordB_any A3 ifs.length c3 B ifs W (hpp W hW).2.2.1 (by have := hW.size; omega) (by omega) hs3
  have hco := fun W => refCount_any outs.length W (by omega)
  have hcm := fun W => refCountI_any mode W hmo hmo2
  have hbl := patB_len left
  have hbr := patB_len right
  have hbw : (wordB ifs).length ≤ 10010 := by
    have := flatB_len sndB_len ifs
    have := numB_len ifs.length
    show (numB ifs.length ++ ifs.flatMap sndB).length ≤ _
    rw [List.length_append]
    omega
  have hbt : (textB nm).length ≤ 1005 := by
    have := numB_len nm.size
    have hsl : (sbytes nm).length = nm.size := by unfold sbytes; rw [List.length_map]; exact Array.length_toList
    show (numB nm.size ++ sbytes nm).length ≤ _
    rw [List.length_append]
    omega
  obtain ⟨y0, y1, y2, y3, y4, y5, y6, y7, y8, y9, y10, y11, y12, y13, y14, y15, y16, y17⟩ := hbox.eighteen
  have HZ0 := Lib.hid hZ0; have HST := Lib.hid hst; have HBOX := Lib.hid hbox; have HPP := Lib.hid hpp; have HCL := Lib.hid hcl; have HCR := Lib.hid hcr; have HCW := Lib.hid hcw; have HCO := Lib.hid hco; have HCM := Lib.hid hcm; have HOK4 := Lib.hid hok4
  clear hZ0 hst hbox hpp hcl hcr hcw hco hcm hok4 hl0 hl hs3
  show Calls _ _ #[.agg #[.string nm, .int .i64 k1, .int .u32 s1.1, .int .u32 s1.2, .bool n1, .int .i64 lo1, .int .i64 hi1, .slice A1 m1 c1, .int .i64 k2, .int .u32 s2.1, .int .u32 s2.2, .bool n2, .int .i64 lo2, .int .i64 hi2, .slice A2 m2 c2, .slice A3 ifs.length c3, .slice A4 outs.length c4, .int .i64 mode]] _ (GivesB w (textB nm ++ (patB left ++ (patB right ++ (wordB ifs ++ (outsB outs ++ numB mode.toNat))))))
  unfold GivesB
  go_enter Tryz.func104, Tryz.ntmps104
  go_wp2_with fail
  rw [HZ0.out]
  go_wp2_with fail
  refine (refText_any nm Z0 (by omega)).mono ?_
  rintro e w1 ⟨v1, rfl, ho1, hb1⟩
  obtain ⟨x1, hx1, hxl1⟩ : ∃ x : List Nat, x = textB nm ∧ x.length ≤ 1005 := ⟨_, rfl, hbt⟩
  rw [← hx1] at ho1
  have HX1 := Lib.hid hx1; have HO1 := Lib.hid ho1; have HB1 := Lib.hid hb1
  clear hx1 ho1 hb1 y0 y1 y2 y3 y4 y5 y6 y7 y8 y9 y10 y11 y12 y13 y14 y15 y16 y17
  obtain ⟨y0, y1, y2, y3, y4, y5, y6, y7, y8, y9, y10, y11, y12, y13, y14, y15, y16, y17⟩ := (HBOX.out.below HB1.out HBOX.out.lt).eighteen
  go_wp2_with fail
  refine (HCL.out _ HB1.out).mono ?_
  rintro e u1 ⟨v2, rfl, ho2, hb2⟩
  obtain ⟨y'1, hy, hyl1⟩ : ∃ y : List Nat, y = patB left ∧ y.length ≤ 800 := ⟨_, rfl, by omega⟩
  rw [← hy] at ho2
  obtain ⟨A9, q9, rfl, -, -⟩ := ownsRow_form ho2
  have hz2 := own_below' HO1.out hb2
  have hb2' := HB1.out.trans (hb2.mono HB1.out.size)
  have HO9 := Lib.hid ho2; have HZ9 := Lib.hid hz2; have HB9 := Lib.hid hb2'; have HY1 := Lib.hid hy
  clear ho2 hz2 hb2 hb2' hy
  go_wp2_with (at_builtin; refine wpList_append_any _ rfl _ _ 36 rfl Z0.heap.size 5 i0 (.int .u8 0) 1 1 Tryz.underlying36 hi0 hz0 hz1 hz3 rfl (by decide) _ _ _ rfl HZ9.out _ _ _ _ (y'1.map bv) rfl (Reads.of_own HO9.out) (bv_one _) (by unfold maxLen; omega) (by omega) (by have := HB9.out.size; (try simp); omega) ?_; intro v' w2 hown' hgrow hx'; have hb3 := HB9.out.grown hgrow HB9.out.size (fun g hg => (HZ9.out.lt g hg).1); clear hx'; clear y0 y1 y2 y3 y4 y5 y6 y7 y8 y9 y10 y11 y12 y13 y14 y15 y16 y17; obtain ⟨y0, y1, y2, y3, y4, y5, y6, y7, y8, y9, y10, y11, y12, y13, y14, y15, y16, y17⟩ := (HBOX.out.below hb3 HBOX.out.lt).eighteen; clear hgrow HZ9)
  obtain ⟨x2, hx, hxl2⟩ : ∃ x : List Nat, x = x1 ++ y'1 ∧ x.length ≤ 2000 := ⟨_, rfl, by rw [List.length_append]; omega⟩
  have hown2 : w2.ownsRow Z0.heap.size 5 1 v' x2.length (x2.map bv) := by
    rw [hx, List.length_append, List.map_append]
    exact hown'
  have HX2 := Lib.hid hx; have HO2 := Lib.hid hown2; have HB2 := Lib.hid hb3
  clear hx hown' hown2 hb3 HB9
  go_wp2_with fail
  refine (HCR.out _ HB2.out).mono ?_
  rintro e u2 ⟨v2, rfl, ho2, hb2⟩
  obtain ⟨y'2, hy, hyl2⟩ : ∃ y : List Nat, y = patB right ∧ y.length ≤ 800 := ⟨_, rfl, by omega⟩
  rw [← hy] at ho2
  obtain ⟨A9, q9, rfl, -, -⟩ := ownsRow_form ho2
  have hz2 := own_below' HO2.out hb2
  have hb2' := HB2.out.trans (hb2.mono HB2.out.size)
  have HO9 := Lib.hid ho2; have HZ9 := Lib.hid hz2; have HB9 := Lib.hid hb2'; have HY2 := Lib.hid hy
  clear ho2 hz2 hb2 hb2' hy
  go_wp2_with (at_builtin; refine wpList_append_any _ rfl _ _ 36 rfl Z0.heap.size 5 i0 (.int .u8 0) 1 1 Tryz.underlying36 hi0 hz0 hz1 hz3 rfl (by decide) _ _ _ rfl HZ9.out _ _ _ _ (y'2.map bv) rfl (Reads.of_own HO9.out) (bv_one _) (by unfold maxLen; omega) (by omega) (by have := HB9.out.size; (try simp); omega) ?_; intro v' w3 hown' hgrow hx'; have hb3 := HB9.out.grown hgrow HB9.out.size (fun g hg => (HZ9.out.lt g hg).1); clear hx'; clear y0 y1 y2 y3 y4 y5 y6 y7 y8 y9 y10 y11 y12 y13 y14 y15 y16 y17; obtain ⟨y0, y1, y2, y3, y4, y5, y6, y7, y8, y9, y10, y11, y12, y13, y14, y15, y16, y17⟩ := (HBOX.out.below hb3 HBOX.out.lt).eighteen; clear hgrow HZ9)
  obtain ⟨x3, hx, hxl3⟩ : ∃ x : List Nat, x = x2 ++ y'2 ∧ x.length ≤ 3000 := ⟨_, rfl, by rw [List.length_append]; omega⟩
  have hown2 : w3.ownsRow Z0.heap.size 5 1 v' x3.length (x3.map bv) := by
    rw [hx, List.length_append, List.map_append]
    exact hown'
  have HX3 := Lib.hid hx; have HO3 := Lib.hid hown2; have HB3 := Lib.hid hb3
  clear hx hown' hown2 hb3 HB9
  go_wp2_with fail
  refine (HCW.out _ HB3.out).mono ?_
  rintro e u3 ⟨v2, rfl, ho2, hb2⟩
  obtain ⟨y'3, hy, hyl3⟩ : ∃ y : List Nat, y = wordB ifs ∧ y.length ≤ 10010 := ⟨_, rfl, hbw⟩
  rw [← hy] at ho2
  obtain ⟨A9, q9, rfl, -, -⟩ := ownsRow_form ho2
  have hz2 := own_below' HO3.out hb2
  have hb2' := HB3.out.trans (hb2.mono HB3.out.size)
  have HO9 := Lib.hid ho2; have HZ9 := Lib.hid hz2; have HB9 := Lib.hid hb2'; have HY3 := Lib.hid hy
  clear ho2 hz2 hb2 hb2' hy
  go_wp2_with (at_builtin; refine wpList_append_any _ rfl _ _ 36 rfl Z0.heap.size 5 i0 (.int .u8 0) 1 1 Tryz.underlying36 hi0 hz0 hz1 hz3 rfl (by decide) _ _ _ rfl HZ9.out _ _ _ _ (y'3.map bv) rfl (Reads.of_own HO9.out) (bv_one _) (by unfold maxLen; omega) (by omega) (by have := HB9.out.size; (try simp); omega) ?_; intro v' w4 hown' hgrow hx'; have hb3 := HB9.out.grown hgrow HB9.out.size (fun g hg => (HZ9.out.lt g hg).1); clear hx'; clear y0 y1 y2 y3 y4 y5 y6 y7 y8 y9 y10 y11 y12 y13 y14 y15 y16 y17; obtain ⟨y0, y1, y2, y3, y4, y5, y6, y7, y8, y9, y10, y11, y12, y13, y14, y15, y16, y17⟩ := (HBOX.out.below hb3 HBOX.out.lt).eighteen; clear hgrow HZ9)
  obtain ⟨x4, hx, hxl4⟩ : ∃ x : List Nat, x = x3 ++ y'3 ∧ x.length ≤ 14000 := ⟨_, rfl, by rw [List.length_append]; omega⟩
  have hown2 : w4.ownsRow Z0.heap.size 5 1 v' x4.length (x4.map bv) := by
    rw [hx, List.length_append, List.map_append]
    exact hown'
  have HX4 := Lib.hid hx; have HO4 := Lib.hid hown2; have HB4 := Lib.hid hb3
  clear hx hown' hown2 hb3 HB9
  go_wp2_with fail
  refine (HCO.out _).mono ?_
  rintro e u4 ⟨v2, rfl, ho2, hb2⟩
  obtain ⟨y'4, hy, hyl4⟩ : ∃ y : List Nat, y = numB outs.length ∧ y.length ≤ 5 := ⟨_, rfl, numB_len _⟩
  rw [← hy] at ho2
  obtain ⟨A9, q9, rfl, -, -⟩ := ownsRow_form ho2
  have hz2 := own_below' HO4.out hb2
  have hb2' := HB4.out.trans (hb2.mono HB4.out.size)
  have HO9 := Lib.hid ho2; have HZ9 := Lib.hid hz2; have HB9 := Lib.hid hb2'; have HY4 := Lib.hid hy
  clear ho2 hz2 hb2 hb2' hy
  go_wp2_with (at_builtin; refine wpList_append_any _ rfl _ _ 36 rfl Z0.heap.size 5 i0 (.int .u8 0) 1 1 Tryz.underlying36 hi0 hz0 hz1 hz3 rfl (by decide) _ _ _ rfl HZ9.out _ _ _ _ (y'4.map bv) rfl (Reads.of_own HO9.out) (bv_one _) (by unfold maxLen; omega) (by omega) (by have := HB9.out.size; (try simp); omega) ?_; intro v' w5 hown' hgrow hx'; have hb3 := HB9.out.grown hgrow HB9.out.size (fun g hg => (HZ9.out.lt g hg).1); clear hx'; clear y0 y1 y2 y3 y4 y5 y6 y7 y8 y9 y10 y11 y12 y13 y14 y15 y16 y17; obtain ⟨y0, y1, y2, y3, y4, y5, y6, y7, y8, y9, y10, y11, y12, y13, y14, y15, y16, y17⟩ := (HBOX.out.below hb3 HBOX.out.lt).eighteen; clear hgrow HZ9)
  obtain ⟨x5, hx, hxl5⟩ : ∃ x : List Nat, x = x4 ++ y'4 ∧ x.length ≤ 14010 := ⟨_, rfl, by rw [List.length_append]; omega⟩
  have hown2 : w5.ownsRow Z0.heap.size 5 1 v' x5.length (x5.map bv) := by
    rw [hx, List.length_append, List.map_append]
    exact hown'
  have HX5 := Lib.hid hx; have HO5 := Lib.hid hown2; have HB5 := Lib.hid hb3
  clear hx hown' hown2 hb3 HB9
  go_wp2
  clear y0 y1 y2 y3 y4 y5 y6 y7 y8 y9 y10 y11 y12 y13 y14 y15 y16 y17
  go_loopw [3, 4] (fun v i wr => ∃ j : Nat, j ≤ outs.length ∧ i = .int .i64 j ∧ wr.ownsRow Z0.heap.size 5 1 v (x5 ++ (outs.take j).flatMap outB).length ((x5 ++ (outs.take j).flatMap outB).map bv) ∧ Below Z0.heap.size Z0 wr) (fun _ i _ => outs.length - (Lib.intOf i).toNat)
  case atStart => exact ⟨0, Nat.zero_le _, rfl, by rw [List.take_zero, List.flatMap_nil, List.append_nil]; exact HO5.out, HB5.out⟩
  case round =>
    obtain ⟨j, hj, rfl, hown, hb⟩ := hrel
    obtain ⟨y0, y1, y2, y3, y4, y5, y6, y7, y8, y9, y10, y11, y12, y13, y14, y15, y16, y17⟩ := (HBOX.out.below hb HBOX.out.lt).eighteen
    have hlen : (x5 ++ (outs.take j).flatMap outB).length ≤ 50000 := by
      have := flatB_len outB_len (outs.take j)
      rw [List.length_append]
      rw [List.length_take] at this
      omega
    obtain ⟨x10, hx10⟩ : ∃ z, x5 ++ (outs.take j).flatMap outB = z := ⟨_, rfl⟩
    rw [hx10] at hown hlen
    have HO9 := Lib.hid hown; have HB9 := Lib.hid hb; have HX10 := Lib.hid hx10
    clear hown hb hx10
    by_cases hlt : j < outs.length
    · have hkI : (j : Int) < (outs.length : Int) := by omega
      obtain ⟨-, -, -, hr4⟩ := HPP.out _ HB9.out
      obtain ⟨ad, rfl, had, d0, d1, d2, d3, d4, d5⟩ := out_cells hr4 hlt
      have hok5 := HOK4.out _ (List.getElem_mem hlt)
      have hts : x5 ++ (outs.take (j + 1)).flatMap outB = x10 ++ outB outs[j] := by rw [take_flat outB outs j hlt, ← List.append_assoc, HX10.out]
      have HTS := Lib.hid hts
      clear hts hr4
      generalize outs[j] = s at *
      obtain ⟨src, cle, set, tke, ref⟩ := s
      obtain ⟨hs1, hs2, hs3, hs4, hs5⟩ := hok5
      simp only at d0 d1 d2 d3 d4 d5 hs1 hs2 hs3 hs4 hs5
      have ho10 := World.ownsRow.alloc (w := wr) HO9.out (.cells #[.int .i64 src, .int .u32 cle, .int .u32 set.1, .int .u32 set.2, .int .u32 tke, .int .i64 ref] 90)
      have hb10 := HB9.out.alloc HB9.out.size (.cells #[.int .i64 src, .int .u32 cle, .int .u32 set.1, .int .u32 set.2, .int .u32 tke, .int .i64 ref] 90)
      have hp10 := Blk.new wr 90 #[.int .i64 src, .int .u32 cle, .int .u32 set.1, .int .u32 set.2, .int .u32 tke, .int .i64 ref]
      obtain ⟨w10, hw10⟩ : ∃ W, wr.alloc (.cells #[.int .i64 src, .int .u32 cle, .int .u32 set.1, .int .u32 set.2, .int .u32 tke, .int .i64 ref] 90) = W := ⟨_, rfl⟩
      rw [hw10] at ho10 hb10 hp10
      obtain ⟨z0, z1, z2, z3, z4, z5⟩ := hp10.six
      have HO10 := Lib.hid ho10; have HB10 := Lib.hid hb10; have HP10 := Lib.hid hp10; have HW10 := Lib.hid hw10
      clear ho10 hb10 hp10 hw10
      go_wp2_with fail
      rw [HW10.out]
      clear HW10 d0 d1 d2 d3 d4 d5 y0 y1 y2 y3 y4 y5 y6 y7 y8 y9 y10 y11 y12 y13 y14 y15 y16 y17
      obtain ⟨y0, y1, y2, y3, y4, y5, y6, y7, y8, y9, y10, y11, y12, y13, y14, y15, y16, y17⟩ := (HBOX.out.below HB10.out HBOX.out.lt).eighteen
      go_wp2_with fail
      refine (refCountI_any (src + 1) _ (by omega) (by omega)).mono ?_
      rintro e u10 ⟨v2, rfl, ho2, hb2⟩
      obtain ⟨y'10, hy, hyl10⟩ : ∃ y : List Nat, y = numB (src + 1).toNat ∧ y.length ≤ 5 := ⟨_, rfl, numB_len _⟩
      rw [← hy] at ho2
      obtain ⟨A9, q9, rfl, -, -⟩ := ownsRow_form ho2
      have hz2 := own_below' HO10.out hb2
      have hb2' := HB10.out.trans (hb2.mono HB10.out.size)
      have HO9 := Lib.hid ho2; have HZ9 := Lib.hid hz2; have HB9 := Lib.hid hb2'; have HY10 := Lib.hid hy
      have HQ10 := Lib.hid (HP10.out.below hb2 HP10.out.lt)
      clear ho2 hz2 hb2 hb2' hy
      go_wp2_with (at_builtin; refine wpList_append_any _ rfl _ _ 36 rfl Z0.heap.size 5 i0 (.int .u8 0) 1 1 Tryz.underlying36 hi0 hz0 hz1 hz3 rfl (by decide) _ _ _ rfl HZ9.out _ _ _ _ (y'10.map bv) rfl (Reads.of_own HO9.out) (bv_one _) (by unfold maxLen; omega) (by omega) (by have := HB9.out.size; (try simp); omega) ?_; intro v' w11 hown' hgrow hx'; have hb3 := HB9.out.grown hgrow HB9.out.size (fun g hg => (HZ9.out.lt g hg).1); clear hx'; have HP11 := Lib.hid (HQ10.out.grown hgrow (fun e => own_blk_ne HZ9.out HQ10.out (by decide) e.symm)); clear HQ10 HP10 z0 z1 z2 z3 z4 z5 y0 y1 y2 y3 y4 y5 y6 y7 y8 y9 y10 y11 y12 y13 y14 y15 y16 y17; obtain ⟨z0, z1, z2, z3, z4, z5⟩ := HP11.out.six; obtain ⟨y0, y1, y2, y3, y4, y5, y6, y7, y8, y9, y10, y11, y12, y13, y14, y15, y16, y17⟩ := (HBOX.out.below hb3 HBOX.out.lt).eighteen; clear hgrow HZ9)
      obtain ⟨x11, hx, hxl11⟩ : ∃ x : List Nat, x = x10 ++ y'10 ∧ x.length ≤ 50005 := ⟨_, rfl, by rw [List.length_append]; omega⟩
      have hown2 : w11.ownsRow Z0.heap.size 5 1 v' x11.length (x11.map bv) := by
        rw [hx, List.length_append, List.map_append]
        exact hown'
      have HX11 := Lib.hid hx; have HO11 := Lib.hid hown2; have HB11 := Lib.hid hb3
      clear hx hown' hown2 hb3 HB9
      go_wp2_with fail
      refine (refNum_any cle _ hs2).mono ?_
      rintro e u11 ⟨v2, rfl, ho2, hb2⟩
      obtain ⟨y'11, hy, hyl11⟩ : ∃ y : List Nat, y = numB cle ∧ y.length ≤ 5 := ⟨_, rfl, numB_len _⟩
      rw [← hy] at ho2
      obtain ⟨A9, q9, rfl, -, -⟩ := ownsRow_form ho2
      have hz2 := own_below' HO11.out hb2
      have hb2' := HB11.out.trans (hb2.mono HB11.out.size)
      have HO9 := Lib.hid ho2; have HZ9 := Lib.hid hz2; have HB9 := Lib.hid hb2'; have HY11 := Lib.hid hy
      have HQ11 := Lib.hid (HP11.out.below hb2 HP11.out.lt)
      clear ho2 hz2 hb2 hb2' hy
      go_wp2_with (at_builtin; refine wpList_append_any _ rfl _ _ 36 rfl Z0.heap.size 5 i0 (.int .u8 0) 1 1 Tryz.underlying36 hi0 hz0 hz1 hz3 rfl (by decide) _ _ _ rfl HZ9.out _ _ _ _ (y'11.map bv) rfl (Reads.of_own HO9.out) (bv_one _) (by unfold maxLen; omega) (by omega) (by have := HB9.out.size; (try simp); omega) ?_; intro v' w12 hown' hgrow hx'; have hb3 := HB9.out.grown hgrow HB9.out.size (fun g hg => (HZ9.out.lt g hg).1); clear hx'; have HP12 := Lib.hid (HQ11.out.grown hgrow (fun e => own_blk_ne HZ9.out HQ11.out (by decide) e.symm)); clear HQ11 HP11 z0 z1 z2 z3 z4 z5 y0 y1 y2 y3 y4 y5 y6 y7 y8 y9 y10 y11 y12 y13 y14 y15 y16 y17; obtain ⟨z0, z1, z2, z3, z4, z5⟩ := HP12.out.six; obtain ⟨y0, y1, y2, y3, y4, y5, y6, y7, y8, y9, y10, y11, y12, y13, y14, y15, y16, y17⟩ := (HBOX.out.below hb3 HBOX.out.lt).eighteen; clear hgrow HZ9)
      obtain ⟨x12, hx, hxl12⟩ : ∃ x : List Nat, x = x11 ++ y'11 ∧ x.length ≤ 50010 := ⟨_, rfl, by rw [List.length_append]; omega⟩
      have hown2 : w12.ownsRow Z0.heap.size 5 1 v' x12.length (x12.map bv) := by
        rw [hx, List.length_append, List.map_append]
        exact hown'
      have HX12 := Lib.hid hx; have HO12 := Lib.hid hown2; have HB12 := Lib.hid hb3
      clear hx hown' hown2 hb3 HB9
      go_wp2_with fail
      refine (refSound_any set _ hs3).mono ?_
      rintro e u12 ⟨v2, rfl, ho2, hb2⟩
      obtain ⟨y'12, hy, hyl12⟩ : ∃ y : List Nat, y = sndB set ∧ y.length ≤ 10 := ⟨_, rfl, sndB_len _⟩
      rw [← hy] at ho2
      obtain ⟨A9, q9, rfl, -, -⟩ := ownsRow_form ho2
      have hz2 := own_below' HO12.out hb2
      have hb2' := HB12.out.trans (hb2.mono HB12.out.size)
      have HO9 := Lib.hid ho2; have HZ9 := Lib.hid hz2; have HB9 := Lib.hid hb2'; have HY12 := Lib.hid hy
      have HQ12 := Lib.hid (HP12.out.below hb2 HP12.out.lt)
      clear ho2 hz2 hb2 hb2' hy
      go_wp2_with (at_builtin; refine wpList_append_any _ rfl _ _ 36 rfl Z0.heap.size 5 i0 (.int .u8 0) 1 1 Tryz.underlying36 hi0 hz0 hz1 hz3 rfl (by decide) _ _ _ rfl HZ9.out _ _ _ _ (y'12.map bv) rfl (Reads.of_own HO9.out) (bv_one _) (by unfold maxLen; omega) (by omega) (by have := HB9.out.size; (try simp); omega) ?_; intro v' w13 hown' hgrow hx'; have hb3 := HB9.out.grown hgrow HB9.out.size (fun g hg => (HZ9.out.lt g hg).1); clear hx'; have HP13 := Lib.hid (HQ12.out.grown hgrow (fun e => own_blk_ne HZ9.out HQ12.out (by decide) e.symm)); clear HQ12 HP12 z0 z1 z2 z3 z4 z5 y0 y1 y2 y3 y4 y5 y6 y7 y8 y9 y10 y11 y12 y13 y14 y15 y16 y17; obtain ⟨z0, z1, z2, z3, z4, z5⟩ := HP13.out.six; obtain ⟨y0, y1, y2, y3, y4, y5, y6, y7, y8, y9, y10, y11, y12, y13, y14, y15, y16, y17⟩ := (HBOX.out.below hb3 HBOX.out.lt).eighteen; clear hgrow HZ9)
      obtain ⟨x13, hx, hxl13⟩ : ∃ x : List Nat, x = x12 ++ y'12 ∧ x.length ≤ 50020 := ⟨_, rfl, by rw [List.length_append]; omega⟩
      have hown2 : w13.ownsRow Z0.heap.size 5 1 v' x13.length (x13.map bv) := by
        rw [hx, List.length_append, List.map_append]
        exact hown'
      have HX13 := Lib.hid hx; have HO13 := Lib.hid hown2; have HB13 := Lib.hid hb3
      clear hx hown' hown2 hb3 HB9
      go_wp2_with fail
      refine (refNum_any tke _ hs4).mono ?_
      rintro e u13 ⟨v2, rfl, ho2, hb2⟩
      obtain ⟨y'13, hy, hyl13⟩ : ∃ y : List Nat, y = numB tke ∧ y.length ≤ 5 := ⟨_, rfl, numB_len _⟩
      rw [← hy] at ho2
      obtain ⟨A9, q9, rfl, -, -⟩ := ownsRow_form ho2
      have hz2 := own_below' HO13.out hb2
      have hb2' := HB13.out.trans (hb2.mono HB13.out.size)
      have HO9 := Lib.hid ho2; have HZ9 := Lib.hid hz2; have HB9 := Lib.hid hb2'; have HY13 := Lib.hid hy
      have HQ13 := Lib.hid (HP13.out.below hb2 HP13.out.lt)
      clear ho2 hz2 hb2 hb2' hy
      go_wp2_with (at_builtin; refine wpList_append_any _ rfl _ _ 36 rfl Z0.heap.size 5 i0 (.int .u8 0) 1 1 Tryz.underlying36 hi0 hz0 hz1 hz3 rfl (by decide) _ _ _ rfl HZ9.out _ _ _ _ (y'13.map bv) rfl (Reads.of_own HO9.out) (bv_one _) (by unfold maxLen; omega) (by omega) (by have := HB9.out.size; (try simp); omega) ?_; intro v' w14 hown' hgrow hx'; have hb3 := HB9.out.grown hgrow HB9.out.size (fun g hg => (HZ9.out.lt g hg).1); clear hx'; have HP14 := Lib.hid (HQ13.out.grown hgrow (fun e => own_blk_ne HZ9.out HQ13.out (by decide) e.symm)); clear HQ13 HP13 z0 z1 z2 z3 z4 z5 y0 y1 y2 y3 y4 y5 y6 y7 y8 y9 y10 y11 y12 y13 y14 y15 y16 y17; obtain ⟨z0, z1, z2, z3, z4, z5⟩ := HP14.out.six; obtain ⟨y0, y1, y2, y3, y4, y5, y6, y7, y8, y9, y10, y11, y12, y13, y14, y15, y16, y17⟩ := (HBOX.out.below hb3 HBOX.out.lt).eighteen; clear hgrow HZ9)
      obtain ⟨x14, hx, hxl14⟩ : ∃ x : List Nat, x = x13 ++ y'13 ∧ x.length ≤ 50025 := ⟨_, rfl, by rw [List.length_append]; omega⟩
      have hown2 : w14.ownsRow Z0.heap.size 5 1 v' x14.length (x14.map bv) := by
        rw [hx, List.length_append, List.map_append]
        exact hown'
      have HX14 := Lib.hid hx; have HO14 := Lib.hid hown2; have HB14 := Lib.hid hb3
      clear hx hown' hown2 hb3 HB9
      go_wp2_with fail
      refine (refCountI_any ref _ hs5.1 hs5.2).mono ?_
      rintro e u14 ⟨v2, rfl, ho2, hb2⟩
      obtain ⟨y'14, hy, hyl14⟩ : ∃ y : List Nat, y = numB ref.toNat ∧ y.length ≤ 5 := ⟨_, rfl, numB_len _⟩
      rw [← hy] at ho2
      obtain ⟨A9, q9, rfl, -, -⟩ := ownsRow_form ho2
      have hz2 := own_below' HO14.out hb2
      have hb2' := HB14.out.trans (hb2.mono HB14.out.size)
      have HO9 := Lib.hid ho2; have HZ9 := Lib.hid hz2; have HB9 := Lib.hid hb2'; have HY14 := Lib.hid hy
      have HQ14 := Lib.hid (HP14.out.below hb2 HP14.out.lt)
      clear ho2 hz2 hb2 hb2' hy
      go_wp2_with (at_builtin; refine wpList_append_any _ rfl _ _ 36 rfl Z0.heap.size 5 i0 (.int .u8 0) 1 1 Tryz.underlying36 hi0 hz0 hz1 hz3 rfl (by decide) _ _ _ rfl HZ9.out _ _ _ _ (y'14.map bv) rfl (Reads.of_own HO9.out) (bv_one _) (by unfold maxLen; omega) (by omega) (by have := HB9.out.size; (try simp); omega) ?_; intro v' w15 hown' hgrow hx'; have hb3 := HB9.out.grown hgrow HB9.out.size (fun g hg => (HZ9.out.lt g hg).1); clear hx'; have HP15 := Lib.hid (HQ14.out.grown hgrow (fun e => own_blk_ne HZ9.out HQ14.out (by decide) e.symm)); clear HQ14 HP14 z0 z1 z2 z3 z4 z5 y0 y1 y2 y3 y4 y5 y6 y7 y8 y9 y10 y11 y12 y13 y14 y15 y16 y17; obtain ⟨z0, z1, z2, z3, z4, z5⟩ := HP15.out.six; obtain ⟨y0, y1, y2, y3, y4, y5, y6, y7, y8, y9, y10, y11, y12, y13, y14, y15, y16, y17⟩ := (HBOX.out.below hb3 HBOX.out.lt).eighteen; clear hgrow HZ9)
      obtain ⟨x15, hx, hxl15⟩ : ∃ x : List Nat, x = x14 ++ y'14 ∧ x.length ≤ 50030 := ⟨_, rfl, by rw [List.length_append]; omega⟩
      have hown2 : w15.ownsRow Z0.heap.size 5 1 v' x15.length (x15.map bv) := by
        rw [hx, List.length_append, List.map_append]
        exact hown'
      have HX15 := Lib.hid hx; have HO15 := Lib.hid hown2; have HB15 := Lib.hid hb3
      clear hx hown' hown2 hb3 HB9
      have hfin : x5 ++ (outs.take (j + 1)).flatMap outB = x15 := by
        rw [HTS.out, HX15.out, HX14.out, HX13.out, HX12.out, HX11.out, HY10.out, HY11.out, HY12.out, HY13.out, HY14.out, List.append_assoc, List.append_assoc, List.append_assoc, List.append_assoc]
        rfl
      have HFIN := Lib.hid hfin
      clear hfin
      go_wp2
      go_roundw
      case rel => exact ⟨j + 1, by omega, by go_num, by rw [HFIN.out]; exact HO15.out, HB15.out⟩
      case measure => simp [Lib.intOf]; omega
    · obtain rfl : j = outs.length := by omega
      rw [List.take_of_length_le (Nat.le_refl _)] at HX10
      have HO10 := HO9; have HB10 := HB9
      clear HO9 HB9
      go_wp2_with fail
      refine (HCM.out _).mono ?_
      rintro e u10 ⟨v2, rfl, ho2, hb2⟩
      obtain ⟨y'10, hy, hyl10⟩ : ∃ y : List Nat, y = numB mode.toNat ∧ y.length ≤ 5 := ⟨_, rfl, numB_len _⟩
      rw [← hy] at ho2
      obtain ⟨A9, q9, rfl, -, -⟩ := ownsRow_form ho2
      have hz2 := own_below' HO10.out hb2
      have hb2' := HB10.out.trans (hb2.mono HB10.out.size)
      have HO9 := Lib.hid ho2; have HZ9 := Lib.hid hz2; have HB9 := Lib.hid hb2'; have HY10 := Lib.hid hy
      clear ho2 hz2 hb2 hb2' hy
      go_wp2_with (at_builtin; refine wpList_append_any _ rfl _ _ 36 rfl Z0.heap.size 5 i0 (.int .u8 0) 1 1 Tryz.underlying36 hi0 hz0 hz1 hz3 rfl (by decide) _ _ _ rfl HZ9.out _ _ _ _ (y'10.map bv) rfl (Reads.of_own HO9.out) (bv_one _) (by unfold maxLen; omega) (by omega) (by have := HB9.out.size; (try simp); omega) ?_; intro v' w11 hown' hgrow hx'; have hb3 := HB9.out.grown hgrow HB9.out.size (fun g hg => (HZ9.out.lt g hg).1); clear hx'; clear y0 y1 y2 y3 y4 y5 y6 y7 y8 y9 y10 y11 y12 y13 y14 y15 y16 y17; obtain ⟨y0, y1, y2, y3, y4, y5, y6, y7, y8, y9, y10, y11, y12, y13, y14, y15, y16, y17⟩ := (HBOX.out.below hb3 HBOX.out.lt).eighteen; clear hgrow HZ9)
      obtain ⟨x11, hx, hxl11⟩ : ∃ x : List Nat, x = x10 ++ y'10 ∧ x.length ≤ 50005 := ⟨_, rfl, by rw [List.length_append]; omega⟩
      have hown2 : w11.ownsRow Z0.heap.size 5 1 v' x11.length (x11.map bv) := by
        rw [hx, List.length_append, List.map_append]
        exact hown'
      have HX11 := Lib.hid hx; have HO11 := Lib.hid hown2; have HB11 := Lib.hid hb3
      clear hx hown' hown2 hb3 HB9
      have hfin : textB nm ++ (patB left ++ (patB right ++ (wordB ifs ++ (outsB outs ++ numB mode.toNat)))) = x11 := by
        have e : outsB outs = numB outs.length ++ outs.flatMap outB := rfl
        rw [e, HX11.out, ← HX10.out, HX5.out, HX4.out, HX3.out, HX2.out, HX1.out, HY10.out, HY4.out, HY3.out, HY2.out, HY1.out]
        simp only [List.append_assoc]
      rw [hfin]
      go_wp2
      go_ret
      exact ⟨_, rfl, own_mono HO11.out (Nat.le_of_lt hsz0), HST.out.trans (HB11.out.mono (Nat.le_of_lt hsz0))⟩
end Go.Proofs.YtmepaeahchiglaaGreatDoor
