/-
  CollateHeads of layer 39, walked. Conditions: the cell of the library's MaxLen holds some int; arguments of the reach.
-/
import Derived.Test.YtcdpadggjkobjaaDoorHdP
import Derived.Test.YtcdpadggjkobjaaDoorLists
import Derived.Test.YtcdpadggjkobjaaDoorOpen2
namespace Go.Proofs.YtcdpadggjkobjaaDoor
open Go.RowKit Go.Lib

theorem sameRes_self (r : Res) : sameRes r r = decide (r.1 = 0) := by
  unfold sameRes errTwo
  by_cases h : r.1 = 0
  · rw [if_pos h]; simp [h]
  · rw [if_neg h]; simp [h]
theorem countsL_take (R : List (Nat × Nat)) {k : Nat} (hk : k < R.length) : (countsL (R.take (k + 1))).sum = (countsL (R.take k)).sum + (R[k].2 : Int) := by
  unfold countsL
  rw [List.take_succ_eq_append_getElem hk, List.map_append, List.sum_append]; simp
theorem countsL_nonneg (R : List (Nat × Nat)) : 0 ≤ (countsL R).sum := by
  unfold countsL
  induction R with
  | nil => simp
  | cons p R ih => rw [List.map_cons, List.sum_cons]; omega
theorem countsL_le (R : List (Nat × Nat)) (k : Nat) : (countsL (R.take k)).sum ≤ (countsL R).sum := by
  have h := countsL_nonneg (R.drop k)
  have e : (countsL R).sum = (countsL (R.take k)).sum + (countsL (R.drop k)).sum := by
    conv => lhs; rw [← List.take_append_drop k R]
    unfold countsL
    rw [List.map_append, List.sum_append]
  omega
theorem fullN_le (ls : List ByteArray) : fullN ls ≤ ls.length := List.length_filter_le _ _
set_option maxRecDepth 100000 in
set_option maxHeartbeats 8000000 in
theorem headsLaw_any (A A2 : Option Addr) (n c n2 c2 : Nat) (ss : List ByteArray) (rows : List (List UInt8)) (w : World) (hm : MaxOk w) (hr : ReadS w w.heap.size A n ss) (hs : ∀ s ∈ ss, okS s) (hnc : n ≤ c) (hc : c ≤ maxLen)
    (hr2 : ReadBB w w.heap.size A2 n2 rows) (hn2 : n2 ≤ c2) (hc2 : c2 ≤ maxLen) :
    Calls Tryd.prog 11 #[.slice A n c, .slice A2 n2 c2] w (WorksPost w) := by
  have hf := few_any A n c ss 300 3000 w _ hr hs (by omega) (by omega)
  by_cases h1 : fewB ss 300 3000 = true
  · have h3 := fewB_yes h1
    have hL := hr.len
    rw [h1] at hf
    have hmk := madeF_any A n c ss w hm hr (by omega) hnc hc (by omega)
    have kw := fun W (hb : Below w.heap.size w W) => works_any W (hm.below hb)
    have KW := Lib.hid kw; have HR2 := Lib.hid hr2; have HL2 := Lib.hid hr2.1
    obtain ⟨i0, hi, hz0, hz1, hz2⟩ := info_parts info_string
    have hc2' := hc2
    unfold maxLen at hc2'
    obtain ⟨m, hmn, hm30, hmin⟩ : ∃ m : Nat, m ≤ n2 ∧ m ≤ 30 ∧ (min (n2 : Int) 30) = m := ⟨min n2 30, by omega, by omega, by omega⟩
    have hmax : max (m : Int) 0 = m := by omega
    clear kw hL h3 h1 hm hr hs hnc hc hr2
    go_enter Tryd.func11, Tryd.ntmps11
    go_wp2_with fail
    refine hf.mono ?_
    rintro e w' ⟨rfl, rfl⟩
    go_wp2_with fail
    refine hmk.mono ?_
    rintro e w1 ⟨g, ls0, rfl, hA, hG, herr, hl60, hl3000, hb1⟩
    have hA1 : AlphO w1 (some ⟨g, 0, none⟩) (some (groupsB ls0)) := ⟨g, rfl, hA, hG⟩
    have hfl : (groupsB ls0).flatten.length ≤ 16384 := by
      have := totalP_le ls0
      unfold totalP at this
      omega
    have h8 : ∀ x ∈ (groupsB ls0).flatten, x.size ≤ 8 := fun x hx => by
      rw [← ents_fst] at hx
      obtain ⟨e, he, rfl⟩ := List.mem_map.1 hx
      exact (hG.size he).2
    have HA1 := Lib.hid hA1; have HFL := Lib.hid hfl; have H8 := Lib.hid h8; have HG := Lib.hid hG
    clear hmk hf hA hG herr hl60 hl3000 hA1 hfl h8
    generalize groupsB ls0 = gs at HA1 HFL H8 HG
    go_wp2_with fail
    clear hmin hmax
    go_loopw [6, 7, 37] (fun v fu i wr => ∃ (k : Nat) (ls : List ByteArray), k ≤ m ∧ i = .int .i64 k ∧ fu = .int .i64 (fullN ls : Nat) ∧ wr.ownsRow w1.heap.size 9 1 v ls.length (strs ls) ∧ (∀ s ∈ ls, (readRes gs s).1 = 0) ∧ ls.length ≤ k ∧ Below w1.heap.size w1 wr) (fun _ _ i _ => m - (intOf i).toNat)
    case atStart => exact ⟨0, [], by omega, rfl, rfl, World.ownsRow_nil _ _ _ _, (fun s hs => absurd hs (by simp)), Nat.le_refl _, Below.refl _ _⟩
    case round =>
      obtain ⟨k, ls, hk, rfl, rfl, hown, hgood, hlk, hb⟩ := hrel
      have HGOOD := Lib.hid hgood; clear hgood
      have hb0 := hb1.trans (hb.mono hb1.size)
      have hfle := fullN_le ls
      by_cases hlt : k < m
      · have hkr : k < rows.length := by rw [HL2.out]; omega
        obtain ⟨ad, A', c', rfl, hcr, hcrb, hrb, hlc, hlc2⟩ := (HR2.out.below hb0).2 k hkr
        generalize rows[k] = row at hcr hrb hlc
        have hwr := written_any (some ⟨g, 0, none⟩) (some gs) A' row.length c' row wr (HA1.out.below hb) HFL.out H8.out (Reads.more hrb hb0.size) hlc hlc2
        have hlc3 := hlc2
        unfold maxLen at hlc3
        generalize row.length = rl at hcr hwr hlc
        clear hrb
        go_wp2_with fail
        refine hwr.mono ?_
        rintro e w2 ⟨s, rfl, hs480, hb2⟩
        have hown2 := own_below hown hb2
        have hbw2 := hb.trans (hb2.mono hb.size)
        have hsm := same_any (some ⟨g, 0, none⟩) (some gs) s s w2 ((HA1.out.below hb).below hb2)
        rw [sameRes_self, show readResO (some gs) s = readRes gs s from rfl] at hsm
        have hsn := fullN_snoc ls s
        have hemp := readRes_empty (gs := gs) (s := s)
        have HSN := Lib.hid hsn; have HEMP := Lib.hid hemp
        clear hown hwr hcr hsn hemp
        by_cases hs0 : s.size = 0
        · obtain rfl : s = ⟨#[]⟩ := bl_inj (List.eq_nil_of_length_eq_zero (by rw [bl_len]; exact hs0))
          clear hs0 hsm
          go_wp2_with (at_builtin; refine wpList_append_own _ rfl _ _ 22 rfl w1.heap.size 9 i0 (.string ByteArray.empty) 1 16 Tryd.underlying22 hi hz0 hz1 hz2 rfl (by decide) _ _ _ rfl (hown2.alloc _) ⟨w2.heap.size, 0, none⟩ 1 1 [.string ⟨#[]⟩] rfl rfl (cell_one_new _ _ _) (by simp [Value.oneCell']) (by unfold maxLen; omega) (by omega) (by have := hbw2.size; simp; omega) ?_; intro v' w3 hown' hgrow hx; clear hx)
          have hb3 : Below w1.heap.size w1 w3 := (hbw2.alloc hbw2.size _).grown hgrow (by have := hbw2.size; simp; omega) (fun g hg => (hown2.lt g hg).1)
          clear hgrow hown2
          go_roundw
          case rel =>
            refine ⟨k + 1, ls ++ [⟨#[]⟩], by omega, by go_num, by rw [HSN.out]; rfl, by simpa using hown', fun x hx => ?_, by simp; omega, hb3⟩
            rcases List.mem_append.1 hx with hx | hx
            · exact HGOOD.out x hx
            · rw [List.mem_singleton.1 hx, HEMP.out rfl]
          case measure => simp [intOf]; omega
        · have hspos : 0 < s.size := by omega
          have hse : (s.toList == []) = false := by
            rw [Lib.toList_data, beq_eq_false_iff_ne]; intro e
            have := bl_len s; rw [show bl s = s.data.toList from rfl, e] at this; simp at this; omega
          have hse2 : s.toList.isEmpty = false := by
            rw [Lib.toList_data]
            cases hh : s.data.toList with
            | nil => have := bl_len s; rw [show bl s = s.data.toList from rfl, hh] at this; simp at this; omega
            | cons _ _ => rfl
          by_cases hrd : (readRes gs s).1 = 0
          · rw [decide_eq_true hrd] at hsm
            have HRD := Lib.hid hrd
            rw [if_neg hs0] at HSN
            clear hs0 hrd
            go_wp2_with fail
            refine hsm.mono ?_
            rintro e w3 ⟨rfl, hb3⟩
            have hown3 := own_below hown2 hb3
            have hbw3 := hbw2.trans (hb3.mono hbw2.size)
            clear hown2 hsm
            go_wp2_with (at_builtin; refine wpList_append_own _ rfl _ _ 22 rfl w1.heap.size 9 i0 (.string ByteArray.empty) 1 16 Tryd.underlying22 hi hz0 hz1 hz2 rfl (by decide) _ _ _ rfl (hown3.alloc _) ⟨w3.heap.size, 0, none⟩ 1 1 [.string s] rfl rfl (cell_one_new _ _ _) (by simp [Value.oneCell']) (by unfold maxLen; omega) (by omega) (by have := hbw3.size; simp; omega) ?_; intro v' w4 hown' hgrow hx; clear hx)
            have hb4 : Below w1.heap.size w1 w4 := (hbw3.alloc hbw3.size _).grown hgrow (by have := hbw3.size; simp; omega) (fun g hg => (hown3.lt g hg).1)
            clear hgrow hown3
            go_roundw
            case rel =>
              refine ⟨k + 1, ls ++ [s], by omega, by go_num, by rw [HSN.out]; go_num, by simpa using hown', fun x hx => ?_, by simp; omega, hb4⟩
              rcases List.mem_append.1 hx with hx | hx
              · exact HGOOD.out x hx
              · rw [List.mem_singleton.1 hx]; exact HRD.out
            case measure => simp [intOf]; omega
          · rw [decide_eq_false hrd] at hsm
            clear hs0 hrd
            go_wp2_with fail
            refine hsm.mono ?_
            rintro e w3 ⟨rfl, hb3⟩
            have hown3 := own_below hown2 hb3
            have hbw3 := hbw2.trans (hb3.mono hbw2.size)
            clear hown2 hsm
            go_wp2
            go_roundw
            case rel => exact ⟨k + 1, ls, by omega, by go_num, rfl, hown3, HGOOD.out, by omega, hbw3⟩
            case measure => simp [intOf]; omega
      · obtain rfl : k = m := by omega
        obtain ⟨R, hR, hRl⟩ := hdRes HGOOD.out (by omega)
        obtain ⟨A3, c3, rfl, hc31, hc32⟩ := ownsRow_form hown
        have hhd := headsO_any (some ⟨g, 0, none⟩) (some gs) A3 ls.length c3 ls wr (HA1.out.below hb) (Reads.of_own hown) (by omega)
        rw [hR.res] at hhd
        have hsum := hR.sum
        have hHR := Lib.hid hR; have HSUM := Lib.hid hsum
        clear hR hsum hown HGOOD HR2
        generalize fullN ls = fu at HSUM hfle
        go_wp2_with fail
        refine hhd.mono ?_
        rintro e w2 h
        obtain ⟨A4, n4, c4, A5, n5, c5, rfl, ho4, hn4, h4c, h4m, ho5, hn5, h5c, h5m, hb2⟩ := h.form
        simp only at ho4 ho5 hn4 hn5
        rw [headsL_len] at hn4
        rw [countsL_len] at hn5
        obtain rfl : n4 = n5 := by omega
        have HN4 := Lib.hid hn4
        have hbw2 := hb0.trans (hb2.mono hb0.size)
        have ha2 := (HA1.out.below hb).below hb2
        have HA2 := Lib.hid ha2
        have hk4 : n4 ≤ 30 := by omega
        clear h hn4 hn5 hhd ha2 hb2
        go_wp2_with fail
        go_loopw [7, 14, 81] (fun fx la i wz => ∃ (q : Nat) (lv : Int), q ≤ n4 ∧ i = .int .i64 q ∧ la = .int .i64 lv ∧ fx = .int .i64 ((fu : Int) - (countsL (R.take q)).sum) ∧ (∀ p ∈ R.drop q, lv < (p.1 : Int)) ∧ Below w2.heap.size w2 wz) (fun _ _ i _ => n4 - (intOf i).toNat)
        case atStart => exact ⟨0, -1, by omega, rfl, rfl, by simp [countsL], fun p _ => by omega, Below.refl _ _⟩
        case round =>
          obtain ⟨q, lv, hq, rfl, rfl, rfl, hlv, hbz⟩ := hrel
          have HLV := Lib.hid hlv; clear hlv
          have hbz0 := hbw2.trans (hbz.mono hbw2.size)
          by_cases hqlt : q < n4
          · have hqR : q < R.length := by rw [← HN4.out]; exact hqlt
            have hp := hHR.out.lt _ (List.getElem_mem hqR)
            have hpos := hHR.out.pos _ (List.getElem_mem hqR)
            have hlvq := HLV.out R[q] (by rw [List.drop_eq_getElem_cons hqR]; exact List.mem_cons_self)
            have hnext : ∀ p ∈ R.drop (q + 1), (R[q].1 : Int) < (p.1 : Int) := fun p hp => by
              have := hHR.out.sorted
              rw [← List.take_append_drop q R, List.pairwise_append] at this
              have h2 := this.2.1
              rw [List.drop_eq_getElem_cons hqR, List.pairwise_cons] at h2
              have := h2.1 p hp; omega
            have hct := countsL_take R hqR
            have hcl1 := countsL_le R (q + 1)
            rw [HSUM.out] at hcl1
            have hcn := countsL_nonneg (R.take q)
            have hhq : (headsL gs R)[q]? = some (headG gs R[q].1) := by
              unfold headsL; rw [List.getElem?_map, List.getElem?_eq_getElem hqR]; rfl
            have hcq : (countsL R)[q]? = some (R[q].2 : Int) := by
              unfold countsL; rw [List.getElem?_map, List.getElem?_eq_getElem hqR]; rfl
            obtain ⟨hplt, hpne⟩ := hp
            have hent := headG_ents hplt hpne
            have hrl := readRes_letter HG.out hent
            simp only at hrl
            obtain ⟨hfb1, hfb2⟩ := flat_before hplt hpne
            generalize R[q].1 = a at *
            generalize R[q].2 = cn at *
            obtain ⟨g4, _, hv4, _, _⟩ := World.ownsRow.form ho4 (by omega)
            injection hv4 with hv4 hx1 hx2
            clear hx1 hx2
            subst hv4
            obtain ⟨g5, _, hv5, _, _⟩ := World.ownsRow.form ho5 (by omega)
            injection hv5 with hv5 hx1 hx2
            clear hx1 hx2
            subst hv5
            have hc4 := (own_below ho4 hbz).cellAt q (by omega)
            rw [List.getElem?_map, hhq] at hc4
            have hc5 := (own_below ho5 hbz).cellAt q (by omega)
            rw [List.getElem?_map, hcq] at hc5
            simp only [Option.map_some] at hc4 hc5
            have hky := keyO_any (some ⟨g, 0, none⟩) (some gs) (headG gs a) wr (HA2.out.below hbz)
            rw [show readResO (some gs) (headG gs a) = readRes gs (headG gs a) from rfl, hrl] at hky
            generalize headG gs a = hd at *
            generalize (countsL (R.take q)).sum = cs0 at *
            have HCT := Lib.hid hct; have HNX := Lib.hid hnext; have HFB1 := Lib.hid hfb1; have HFB2 := Lib.hid hfb2
            rw [hct] at hcl1
            have hnd := HG.out.nodup
            have HND := Lib.hid hnd
            have hlr := fun e he => readRes_letter HG.out (e := e) he
            have HLR := Lib.hid hlr
            have hle1 : decide ((a : Int) ≤ lv) = false := by simp; omega
            have hle2 : decide ((cn : Int) < 1) = false := by simp; omega
            clear hct hnext hfb1 hfb2 hhq hcq hent hrl hnd hlr
            go_wp2_with fail
            refine hky.mono ?_
            rintro e w3 h
            obtain ⟨A6, n6, c6, rfl, ho6, hn6, hb3⟩ := h.formO
            have hn1 : n6 = 1 := by have := ho6.1; simpa [keyS] using this.symm
            subst hn1
            obtain ⟨g6, c6', hv6, _, _⟩ := World.ownsRow.form ho6 (by omega)
            injection hv6 with hv6 hx1 hx2
            clear hx1 hx2
            subst hv6
            have hc6 := ho6.cellAt 0 (by omega)
            simp only [keyS, List.map_cons, List.map_nil, List.getElem?_cons_zero] at hc6
            have hc5' := (hb3.cell (p := ⟨g5, q, none⟩) (lt_of_cell hc5)).trans hc5
            have hbz3 := hbz.trans (hb3.mono hbz.size)
            clear h hky ho6 hc4
            go_wp2_with fail
            refine (lettersO_any (some ⟨g, 0, none⟩) (some gs) w3 (HA2.out.below hbz3) HFL.out).mono ?_
            rintro e w5 h
            obtain ⟨A7, n7, c7, rfl, ho7, hn7, hc7, hb5, hn7e⟩ := h.own
            have HN7 := Lib.hid hn7e
            have hbz5 := hbz3.trans (hb5.mono hbz3.size)
            have hfl7 : (flatO (some gs)) = gs.flatten := rfl
            rw [hfl7] at ho7 HN7
            have hpl : (gs.take a).flatten.length < gs.flatten.length := (List.getElem?_eq_some_iff.1 HFB1.out).1
            rw [← HN7.out] at hpl
            have hn7m := hc7
            unfold maxLen at hn7m
            generalize hpre : (gs.take a).flatten.length = pre at *
            have HPRE := Lib.hid hpre
            clear h hn7e hfl7 hc5 hc5' hc6 hpre hb5 hb3
            go_wp2_with fail
            go_loopw [125] (fun i wv => ∃ j : Nat, j ≤ pre ∧ i = .int .i64 j ∧ Below w5.heap.size w5 wv) (fun i _ => pre + 1 - (intOf i).toNat)
            case atStart => exact ⟨0, by omega, rfl, Below.refl _ _⟩
            case round =>
              obtain ⟨j, hj, rfl, hbv⟩ := hrel
              have hjn : j < n7 := by omega
              have hjf : j < gs.flatten.length := by rw [← HN7.out]; exact hjn
              obtain ⟨g7, c7', hv7, _, _⟩ := World.ownsRow.form ho7 (by omega)
              injection hv7 with hv7 hx1 hx2
              clear hx1 hx2
              subst hv7
              have hc8 := (own_below ho7 hbv).cellAt j (by omega)
              rw [List.getElem?_map, List.getElem?_eq_getElem hjf] at hc8
              simp only [Option.map_some] at hc8
              by_cases hjp : j < pre
              · obtain ⟨i', hi', hen⟩ := HFB2.out j hjf hjp
                have hne : gs.flatten[j] ≠ hd := fun e => by
                  obtain ⟨h1, h2⟩ := List.getElem?_eq_some_iff.1 HFB1.out
                  exact List.pairwise_iff_getElem.1 HND.out j pre hjf h1 hjp (by rw [e, h2])
                have hrl := HLR.out _ hen
                simp only at hrl
                generalize gs.flatten[j] = y at hc8 hne hrl
                have hnb : (y.toList == hd.toList) = false := by rw [toList_eq_iff]; exact decide_eq_false hne
                have hib : ((i' : Int) == (a : Int)) = false := by rw [beq_eq_false_iff_ne]; omega
                have hk2 := keyO_any (some ⟨g, 0, none⟩) (some gs) y wr (HA2.out.below (hbz5.trans (hbv.mono hbz5.size)))
                rw [show readResO (some gs) y = readRes gs y from rfl, hrl] at hk2
                clear hne hrl hen
                go_wp2_with fail
                refine hk2.mono ?_
                rintro e w6 h
                obtain ⟨A9, n9, c9, rfl, ho9, hn9, hb9⟩ := h.formO
                have hn1 : n9 = 1 := by have := ho9.1; simpa [keyS] using this.symm
                subst hn1
                obtain ⟨g9, c9', hv9, _, _⟩ := World.ownsRow.form ho9 (by omega)
                injection hv9 with hv9 hx1 hx2
                clear hx1 hx2
                subst hv9
                have hc9 := ho9.cellAt 0 (by omega)
                simp only [keyS, List.map_cons, List.map_nil, List.getElem?_cons_zero] at hc9
                have hbv9 := hbv.trans (hb9.mono hbv.size)
                clear h hk2 ho9 hc8
                go_wp2
                go_roundw
                case rel => exact ⟨j + 1, by omega, by go_num, hbv9⟩
                case measure => simp [intOf]; omega
              · obtain rfl : j = pre := by omega
                have he : gs.flatten[j] = hd := by
                  obtain ⟨h1, h2⟩ := List.getElem?_eq_some_iff.1 HFB1.out
                  exact h2
                rw [he] at hc8
                have hbx : Below w2.heap.size w2 wr := hbz5.trans (hbv.mono hbz5.size)
                have hcast : (fu : Int) - cs0 - cn = (fu : Int) - (cs0 + cn) := by omega
                have HCA := Lib.hid hcast
                clear he hcast hjp
                go_wp2
                go_roundw
                case rel => exact ⟨q + 1, a, by omega, by go_num, rfl, by rw [HCT.out, HCA.out], HNX.out, hbx⟩
                case measure => simp [intOf]; omega
          · obtain rfl : q = n4 := by omega
            have hcs : (countsL (R.take q)).sum = (fu : Int) := by
              rw [List.take_of_length_le (by rw [← HN4.out]; exact Nat.le_refl _), HSUM.out]
            have hz : (fu : Int) - (countsL (R.take q)).sum = 0 := by rw [hcs]; omega
            rw [hz]
            clear hz hcs
            go_wp2_with fail
            refine (KW.out _ hbz0).mono ?_
            rintro e w8 ⟨rfl, hb8⟩
            go_wp2
            go_ret
            exact ⟨rfl, hbz0.trans (hb8.mono hbz0.size)⟩
  · have kw := works_any w hm
    rw [Bool.not_eq_true] at h1
    rw [h1] at hf
    clear h1 hm hr hs hr2
    go_enter Tryd.func11, Tryd.ntmps11
    go_wp2_with fail
    refine hf.mono ?_
    rintro e w' ⟨rfl, rfl⟩
    go_wp2_with fail
    refine kw.mono ?_
    rintro e w8 ⟨rfl, hb8⟩
    go_wp2
    go_ret
    exact ⟨rfl, hb8⟩
end Go.Proofs.YtcdpadggjkobjaaDoor
