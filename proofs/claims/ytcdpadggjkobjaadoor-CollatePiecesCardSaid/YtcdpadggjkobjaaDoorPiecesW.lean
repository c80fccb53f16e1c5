/-
  CollatePieces of layer 39, walked. Conditions: the cell of the library's MaxLen holds some int; arguments of the reach.
-/
import Derived.Test.YtcdpadggjkobjaaDoorPieces
namespace Go.Proofs.YtcdpadggjkobjaaDoor
open Go.RowKit Go.Lib

set_option maxRecDepth 20000 in
set_option maxHeartbeats 4000000 in
theorem pieces_any (A : Option Addr) (n c : Nat) (ss : List ByteArray) (B : Option Addr) (nb cb : Nat) (xs : List UInt8) (w : World) (hm : MaxOk w) (hr : ReadS w w.heap.size A n ss) (hs : ∀ s ∈ ss, okS s) (hnc : n ≤ c) (hc : c ≤ maxLen)
    (hrb : ReadB w w.heap.size B nb xs) (hncb : nb ≤ cb) (hcb : cb ≤ maxLen) :
    Calls Tryd.prog 7 #[.slice A n c, .slice B nb cb] w (WorksPost w) := by
  have hf := few_any A n c ss 300 3000 w _ hr hs (by omega) (by omega)
  by_cases h1 : fewB ss 300 3000 = true
  · have h3 := fewB_yes h1
    have hL := hr.len
    rw [h1] at hf
    have hmk := madeF_any A n c ss w hm hr (by omega) hnc hc (by omega)
    have kw := fun W (hb : Below w.heap.size w W) => works_any W (hm.below hb)
    have KW := Lib.hid kw; have HRB := Lib.hid hrb
    clear kw hL h3 h1 hm hr hs hnc hc hrb
    go_enter Tryd.func7, Tryd.ntmps7
    go_wp2_with fail
    refine hf.mono ?_
    rintro e w' ⟨rfl, rfl⟩
    go_wp2_with fail
    refine hmk.mono ?_
    rintro e w1 ⟨g, ls, rfl, hA, hG, herr, hl60, hl3000, hb1⟩
    have hA1 : AlphO w1 (some ⟨g, 0, none⟩) (some (groupsB ls)) := ⟨g, rfl, hA, hG⟩
    have hfl : (groupsB ls).flatten.length ≤ 16384 := by
      have := totalP_le ls
      unfold totalP at this
      omega
    have h8 : ∀ x ∈ (groupsB ls).flatten, x.size ≤ 8 := fun x hx => by
      rw [← ents_fst] at hx
      obtain ⟨e, he, rfl⟩ := List.mem_map.1 hx
      exact (hG.size he).2
    have HA1 := Lib.hid hA1; have HFL := Lib.hid hfl; have H8 := Lib.hid h8
    clear hmk hf hA hG herr hl60 hl3000 hA1 hfl h8
    generalize groupsB ls = gs at HA1 HFL H8
    go_wp2_with fail
    refine (written_any _ _ B nb cb xs w1 HA1.out HFL.out H8.out ((HRB.out.below hb1).more hb1.size) hncb hcb).mono ?_
    rintro e w2 ⟨s, rfl, hs480, hb2⟩
    have hA2 := HA1.out.below hb2
    have hB2 := hb1.trans (hb2.mono hb1.size)
    clear HRB hncb hcb H8 HA1 hb1 hb2
    rcases hp : parse gs s with _ | es
    · have k1 := fun W h => splitO_any (some ⟨g, 0, none⟩) (some gs) s W h
      have k2 := fun W h => keyO_any (some ⟨g, 0, none⟩) (some gs) s W h
      rw [show readResO (some gs) s = (10, []) from readRes_none hp (by omega)] at k1 k2
      have K1 := Lib.hid k1; have K2 := Lib.hid k2; have HA2 := Lib.hid hA2
      clear k1 k2 hA2 hp
      go_wp2_with fail
      refine (K1.out _ HA2.out).mono ?_
      rintro e w3 h
      obtain ⟨A3, n3, c3, rfl, hx, hn3, hb3, rfl⟩ := h.form
      clear h
      go_wp2_with fail
      refine (K2.out _ (HA2.out.below hb3)).mono ?_
      rintro e w4 h
      obtain ⟨A4, n4, c4, he, hk, hn4, hb4⟩ := h.form
      have hn0 : n4 = 0 := by have := hk.len; simpa [keyS] using this.symm
      subst hn0
      subst he
      clear h
      have hB4 := (hB2.trans (hb3.mono hB2.size)).trans (hb4.mono (by have := hB2.size; have := hb3.size; omega))
      go_wp2_with fail
      refine (KW.out _ hB4).mono ?_
      rintro e w5 ⟨rfl, hb5⟩
      go_wp2
      go_ret
      exact ⟨rfl, hB4.trans (hb5.mono hB4.size)⟩
    · have k1 := fun W h => splitO_any (some ⟨g, 0, none⟩) (some gs) s W h
      have k2 := fun W h => keyO_any (some ⟨g, 0, none⟩) (some gs) s W h
      rw [show readResO (some gs) s = (0, es) from readRes_some hp (by omega)] at k1 k2
      have hlen := parse_length gs s.size s es (Nat.le_refl _) hp
      have K1 := Lib.hid k1; have K2 := Lib.hid k2; have HA2 := Lib.hid hA2; have HP := Lib.hid hp
      clear k1 k2 hA2 hp
      go_wp2_with fail
      refine (K1.out _ HA2.out).mono ?_
      rintro e w3 h
      obtain ⟨A3, n3, c3, rfl, hx, hn3, hc3, hb3, hn3e⟩ := h.own
      have HN3 := Lib.hid hn3e
      clear h hn3e
      go_wp2_with fail
      refine (K2.out _ (HA2.out.below hb3)).mono ?_
      rintro e w4 h
      obtain ⟨A4, n4, c4, he, hk, hn4, hb4⟩ := h.form
      have hn0 : n4 = n3 := by rw [HN3.out]; have := hk.len; simpa [keyS] using this.symm
      subst hn0
      subst he
      clear h hk
      have hx4 := hx.below hb4
      have hA4 := (HA2.out.below hb3).below hb4
      have hB4 := (hB2.trans (hb3.mono hB2.size)).trans (hb4.mono (by have := hB2.size; have := hb3.size; omega))
      have HA4 := Lib.hid hA4
      clear hx hb3 hb4 hB2 HA2 hA4 K2
      have hlet := fun W h => lettersO_any (some ⟨g, 0, none⟩) (some gs) W h HFL.out
      have HLET := Lib.hid hlet; clear hlet
      go_wp2_with fail
      refine (HLET.out w4 HA4.out).mono ?_
      rintro e w5 h
      obtain ⟨A5, n5, c5, rfl, hall, hn5, hc5, hb5, hn5e⟩ := h.own
      have HN5 := Lib.hid hn5e
      clear h hn5e
      have hx5 := hx4.below hb5
      have hA5 := HA4.out.below hb5
      have hB5 := hB4.trans (hb5.mono hB4.size)
      have HA5 := Lib.hid hA5
      clear hx4 hb5 hB4 HA4 hA5 HLET
      have hcc3 := hc3; have hcc5 := hc5
      unfold maxLen at hcc3 hcc5
      go_wp2
      go_loopw [12, 73] (fun r i wr => ∃ (k : Nat) (rs : ByteArray), k ≤ n4 ∧ i = .int .i64 k ∧ r = .string rs ∧ rs.size ≤ 480 ∧ parse gs rs = some (es.drop k) ∧ Below w5.heap.size w5 wr) (fun _ i _ => n4 - (intOf i).toNat)
      case atStart => exact ⟨0, s, by omega, rfl, rfl, hs480, HP.out, Below.refl _ _⟩
      case round =>
        obtain ⟨k, rs, hk, rfl, rfl, hrs, hpk, hbr⟩ := hrel
        have hxr := hx5.below hbr
        have hallr := hall.below hbr
        have hAr := HA5.out.below hbr
        have HAR := Lib.hid hAr; clear hAr
        by_cases hlt : k < n4
        · have hke : k < es.length := by rw [← HN3.out]; exact hlt
          obtain ⟨p1, p2, p3, p4, p5⟩ := parse_step hpk hke
          have hkl : k < (letS es).length := by rw [letS, List.length_map]; exact hke
          obtain ⟨ad, rfl, had, hcx⟩ := ReadS.at_ (k := k) (Reads.of_own hxr) hkl
          have hle : (letS es)[k] = es[k].1 := by simp [letS]
          rw [hle] at hcx
          have hcut := Reads.cut (Reads.of_own hxr) (k := k) (cap := c3) (by omega) hn3
          rw [if_neg (by omega)] at hcut
          have hdr : (letS es).drop k = letS (es.drop k) := by simp [letS, List.map_drop]
          simp only [Option.map_some, Nat.mul_one, ← List.map_drop, hdr] at hcut
          generalize es[k].1 = y at hcx p1 p2 p3 p4 p5
          have hpre := (hasPrefix_iff rs y).2 p3
          have hcon := contains_own A5 n5 c5 _ (flatO (some gs)) y wr hallr (by omega) p2
          have hhp := Tryd.strings_HasPrefix rs y wr
          rw [hpre] at hhp
          have HCUT := Lib.hid hcut; have P1 := Lib.hid p1; have P4 := Lib.hid p4; have HPK := Lib.hid hpk
          clear hcut p1 p2 p3 p4 hpk hle hdr hpre hkl
          go_wp2_with fail
          refine hcon.mono ?_
          rintro e w' ⟨rfl, rfl⟩
          go_wp2_with fail
          refine hhp.mono ?_
          rintro e w' ⟨rfl, rfl⟩
          clear hcon hhp hcx
          obtain ⟨wo, rfl⟩ : ∃ wo : World, wo = w' := ⟨_, rfl⟩
          go_wp2
          go_loop [90] (fun i => ∃ j : Nat, j ≤ n5 ∧ i = .int .i64 j) (fun i => n5 - (intOf i).toNat)
          case atStart => exact ⟨0, by omega, rfl⟩
          case round =>
            obtain ⟨j, hj, rfl⟩ := hrel
            by_cases hltj : j < n5
            · have hjl : j < (flatO (some gs)).length := by rw [← HN5.out]; exact hltj
              obtain ⟨ad5, rfl, had5, hcz⟩ := ReadS.at_ (k := j) (Reads.of_own hallr) hjl
              have hzp := fun h => P4.out _ (List.getElem_mem hjl) h
              generalize (flatO (some gs))[j] = z at hcz hzp
              by_cases hzy : y.size < z.size
              · have hnp : Lib.hasPrefix rs.data.toList z.data.toList = false := by
                  rw [Bool.eq_false_iff]; intro h
                  have := hzp ((hasPrefix_iff rs z).1 h); omega
                have hhz := Tryd.strings_HasPrefix rs z wo
                rw [hnp] at hhz
                clear hnp hzp
                go_wp2_with fail
                refine hhz.mono ?_
                rintro e w' ⟨rfl, rfl⟩
                go_wp2
                go_round
                case rel => exact ⟨j + 1, by omega, by go_num⟩
                case measure => simp [intOf]; omega
              · clear hzp
                go_wp2
                go_round
                case rel => exact ⟨j + 1, by omega, by go_num⟩
                case measure => simp [intOf]; omega
            · obtain rfl : j = n5 := by omega
              have ksp := splitO_any (some ⟨g, 0, none⟩) (some gs) rs wo HAR.out
              rw [show readResO (some gs) rs = (0, es.drop k) from readRes_some HPK.out (by omega)] at ksp
              go_wp2_with fail
              refine ksp.mono ?_
              rintro e w6 h
              obtain ⟨A6, n6, c6, rfl, hm6, hn6, hb6, -⟩ := h.form
              clear h ksp
              have hcut6 := HCUT.out.below hb6
              go_wp2_with fail
              refine (equalS_refl A6 _ n6 _ c6 _ (letS (es.drop k)) w6 _ _ hm6 hcut6 hn6).mono ?_
              rintro e w7 ⟨rfl, q, rfl⟩
              have hbn := below_drewN (hbr.trans (hb6.mono hbr.size)) q
              have hdsz : (dropB rs y.size).size ≤ 480 := by rw [dropB_size]; omega
              clear hcut6 hm6 hb6
              go_wp2
              go_roundw
              case rel => exact ⟨k + 1, dropB rs y.size, by omega, by go_num, rfl, hdsz, P1.out, hbn⟩
              case measure => simp [intOf]; omega
        · obtain rfl : k = n4 := by omega
          rw [List.drop_eq_nil_of_le (by rw [← HN3.out]; exact Nat.le_refl _)] at hpk
          obtain rfl := parse_end hpk
          have hbn := hB5.trans (hbr.mono hB5.size)
          clear hpk
          go_wp2_with fail
          refine (KW.out _ hbn).mono ?_
          rintro e w8 ⟨rfl, hb8⟩
          go_wp2
          go_ret
          exact ⟨rfl, hbn.trans (hb8.mono hbn.size)⟩
  · have kw := works_any w hm
    rw [Bool.not_eq_true] at h1
    rw [h1] at hf
    clear h1 hm hr hs hrb
    go_enter Tryd.func7, Tryd.ntmps7
    go_wp2_with fail
    refine hf.mono ?_
    rintro e w' ⟨rfl, rfl⟩
    go_wp2_with fail
    refine kw.mono ?_
    rintro e w8 ⟨rfl, hb8⟩
    go_wp2
    go_ret
    exact ⟨rfl, hb8⟩
end Go.Proofs.YtcdpadggjkobjaaDoor
