/-
  NotationUnits: the walk. Conditions: a case that can be read.
-/
import Derived.Test.YtohggdfplmlinaaDoorNtF
namespace Go.Proofs.YtohggdfplmlinaaDoor
open Go.RowKit Go.Lib

theorem len_flat {a : List UInt8} : ∀ l : List (List UInt8), a ∈ l → a.length ≤ l.flatten.length
  | [], h => by cases h
  | b :: l, h => by
    rw [List.flatten_cons, List.length_append]
    rcases List.mem_cons.1 h with rfl | h
    · omega
    · have := len_flat l h; omega
theorem flat_take_len (l : List (List UInt8)) (k : Nat) : (l.take k).flatten.length ≤ l.flatten.length := by
  have e : l.flatten = (l.take k).flatten ++ (l.drop k).flatten := by rw [← List.flatten_append, List.take_append_drop]
  rw [e, List.length_append]; omega
theorem dotsOf_len (l : List (List UInt8)) : (dotsOf l).length ≤ l.flatten.length + l.length := by
  cases l with
  | nil => exact Nat.zero_le _
  | cons a r =>
    have h : ∀ r : List (List UInt8), (r.flatMap fun b => 46 :: b).length = r.flatten.length + r.length := by
      intro r
      induction r with
      | nil => rfl
      | cons b r ih => rw [List.flatMap_cons, List.length_append, ih, List.flatten_cons, List.length_append, List.length_cons, List.length_cons]; omega
    unfold dotsOf
    rw [List.length_append, h, List.flatten_cons, List.length_append, List.length_cons]; omega
set_option linter.unusedSimpArgs false in
set_option maxRecDepth 20000 in
set_option maxHeartbeats 4000000 in
theorem units_law {w : World} {A1 A2 A3 : Option Addr} {n1 c1 n2 c2 n3 c3 : Nat} {fs : List ByteArray} {xs : List Nam} {ms : List Mk} (h : CaseM w w.heap.size A1 A2 A3 n1 c1 n2 c2 n3 c3 fs xs ms)
    (s : ByteArray) (hs : s.size ≤ maxLen) :
    Calls Tryd.prog 7 #[caseV A1 A2 A3 n1 c1 n2 c2 n3 c3, .string s] w fun e w' => e = .returned (.bool true) ∧ Below w.heap.size w w' := by
  obtain ⟨W1, hW1⟩ : ∃ W1, w.alloc (.cells #[.slice A1 n1 c1, .slice A2 n2 c2, .slice A3 n3 c3] 26) = W1 := ⟨_, rfl⟩
  have hz : W1.heap.size = w.heap.size + 1 := by rw [← hW1]; simp
  have hb1 : Below w.heap.size w W1 := by rw [← hW1]; exact (Below.refl _ _).alloc (Nat.le_refl _) _
  have kb : Blk W1 w.heap.size 26 #[.slice A1 n1 c1, .slice A2 n2 c2, .slice A3 n3 c3] := by rw [← hW1]; exact Blk.new w _ _
  have hm := made_c (h.below hb1)
  have k0 := kb.cell 0; have k1 := kb.cell 1; have k2 := kb.cell 2
  simp only [List.getElem?_toArray, List.getElem?_cons_zero, List.getElem?_cons_succ] at k0 k1 k2
  have hwk := works_any
  have HM := Lib.hid hm; have KB := Lib.hid kb; have HB1 := Lib.hid hb1; have HWK := Lib.hid hwk
  clear hm kb hb1 hwk h
  have WEND : ∀ W, Below w.heap.size w W → Calls Tryd.prog 11 #[] W fun e w' => e = .returned (.bool true) ∧ Below w.heap.size w w' := fun W hW => (HWK.out W).mono (by
    rintro e w' ⟨rfl, hb⟩
    exact ⟨rfl, hW.trans (hb.mono hW.size)⟩)
  have HWE := Lib.hid WEND
  clear WEND
  go_enter Tryd.func7, Tryd.ntmps7
  go_wp2_with (rw [hW1])
  refine HM.out.mono ?_
  rintro e w2 ⟨hb2, ⟨hE, g, rfl, hn2⟩ | ⟨hE, rfl⟩⟩
  · have hB2 := HB1.out.trans (hb2.mono HB1.out.size)
    have hz2 := hb2.size
    have kb2 := KB.out.below hb2 (by omega)
    have k0 := kb2.cell 0; have k1 := kb2.cell 1; have k2 := kb2.cell 2
    simp only [List.getElem?_toArray, List.getElem?_cons_zero, List.getElem?_cons_succ] at k0 k1 k2
    have hsm := small_c A1 A2 A3 n1 c1 n2 c2 n3 c3 w2
    have HSM := Lib.hid hsm; have HB2 := Lib.hid hB2; have HN2 := Lib.hid hn2
    clear hsm hB2 hb2 hn2 kb2 hW1 hE
    go_wp2_with fail
    refine HSM.out.mono ?_
    rintro e w3 ⟨rfl, hb3⟩
    have hB3 := HB2.out.trans (hb3.mono HB2.out.size)
    have hn3 := HN2.out.below hb3
    have hz3 := hb3.size
    have HB3 := Lib.hid hB3; have HN3 := Lib.hid hn3
    clear hb3 hB3 hn3 HSM HB2 HN2
    cases hsm : smallK n1 n2 n3 with
    | false =>
      clear hsm
      go_wp2_with fail
      refine (HWE.out _ HB3.out).mono ?_
      rintro e w4 ⟨rfl, hb4⟩
      have HB4 := Lib.hid hb4
      clear hb4
      go_wp2
      go_ret
      exact ⟨rfl, HB4.out⟩
    | true =>
      clear hsm
      by_cases hg0 : 100 < s.size
      · have hg0I : (100 : Int) < (s.size : Int) := by omega
        clear hg0
        go_wp2_with fail
        refine (HWE.out _ HB3.out).mono ?_
        rintro e w4 ⟨rfl, hb4⟩
        have HB4 := Lib.hid hb4
        clear hb4
        go_wp2
        go_ret
        exact ⟨rfl, HB4.out⟩
      · have hg0I : ¬ (100 : Int) < (s.size : Int) := by omega
        generalize addsL fs.length [] xs = L at HN3
        have hd := HN3.out.dots
        have hs100 : s.size ≤ 100 := by omega
        have hsp := split_any (w := w3) s ⟨_, HN3.out⟩ hs
        have hps := fun W (hW : NotN W (NewB W1 w2) g fs L ms 0) => parse_any (w := W) s ⟨_, hW⟩ hs
        have hsame := fun W (hW : NotN W (NewB W1 w2) g fs L ms 0) (d : ByteArray) (hd : d.size ≤ maxLen) => same_any (w := W) s d ⟨_, hW⟩ hs hd
        have hR32 := readR_w32 (L := L) (ms := ms) (bs s)
        obtain ⟨R, hR⟩ : ∃ R, readR L ms (bs s) = R := ⟨_, rfl⟩
        rw [hR] at hsp hR32
        rw [hR] at hps
        have HSP := Lib.hid hsp; have HRR := Lib.hid hR; have HD := Lib.hid hd; have HPSA := Lib.hid hps; have HSM := Lib.hid hsame
        clear hps hR hd hsp hsame k0 k1 k2 hg0
        go_wp2_with fail
        refine HSP.out.mono ?_
        rintro e w4 ⟨v4, rfl, ho4, hb4⟩
        obtain ⟨A4, c4, rfl, hc4, hc4'⟩ := ownsRow_form ho4
        have hB4 := HB3.out.trans (hb4.mono HB3.out.size)
        have hn4 := HN3.out.below hb4
        have hp4 := HPSA.out w4 hn4
        have HO4 := Lib.hid ho4; have HB4 := Lib.hid hB4; have HN4 := Lib.hid hn4; have HP4 := Lib.hid hp4
        clear ho4 hB4 hn4 hb4 hp4 HN3 HB3 HSP
        go_wp2_with fail
        refine HP4.out.mono ?_
        rintro e w5 ⟨v5, rfl, ho5, hb5⟩
        obtain ⟨A5, c5, rfl, hc5, hc5'⟩ := ownsRow_form ho5
        have hB5 := HB4.out.trans (hb5.mono HB4.out.size)
        have hn5 := HN4.out.below hb5
        have ho4 := own_chgS (S := fun _ => False) HO4.out (.of_below hb5) (fun _ _ h => h)
        have HO4' := Lib.hid ho4; have HO5 := Lib.hid ho5; have HB5 := Lib.hid hB5; have HN5 := Lib.hid hn5
        clear ho4 ho5 hB5 hn5 hb5 HP4 HN4 HB4 HO4
        by_cases hE : R.e = 0
        · have e1 : (R.e != 0) = false := by rw [hE]; rfl
          obtain ⟨u1, u2, u3⟩ := readR_units HD.out (t := bs s) (by rw [HRR.out]; exact hE)
          have hlens := (readR_lens (L := L) (ms := ms) (t := bs s) (by rw [HRR.out]; exact hE)).1
          rw [HRR.out] at u1 u2 u3 hlens
          have U1 := Lib.hid u1; have U2 := Lib.hid u2; have U3 := Lib.hid u3; have HE := Lib.hid hE
          have hlI : ((R.texts.length : Int) != (R.w.length : Int)) = false := by rw [hlens]; simp
          have HLN := Lib.hid hlens
          clear u1 u2 u3 hE hlens
          go_wp2
          go_loopw [13, 14] (fun p i wr => ∃ k : Nat, k ≤ s.size ∧ i = .int .i64 k ∧ p = .string (asB (((bs s).take k).filter fun c => c != 46)) ∧ w5 = wr) (fun _ i _ => s.size - (RowKit.intOf i).toNat)
          case atStart => exact ⟨0, by omega, rfl, rfl, rfl⟩
          case round =>
            obtain ⟨k, hk, rfl, rfl, rfl⟩ := hrel
            by_cases hlt : k < s.size
            · have hkI : (k : Int) < (s.size : Int) := by omega
              have hk0 : (0 : Int) ≤ (k : Int) := by omega
              have hkb : k < (bs s).length := by rw [size_bs]; exact hlt
              have htk := List.take_succ_eq_append_getElem hkb
              have hx256 : (s[k].toNat : Int) < 256 := by have := s[k].toNat_lt; omega
              have hfl : (((bs s).take k).filter fun c => c != 46).length ≤ 100 := Nat.le_trans (List.length_filter_le _ _) (by rw [List.length_take, size_bs]; omega)
              obtain ⟨pl, hpl⟩ : ∃ pl, ((bs s).take k).filter (fun c => c != 46) = pl := ⟨_, rfl⟩
              rw [hpl] at hfl ⊢
              have hnx : ((bs s).take (k + 1)).filter (fun c => c != 46) = if s[k] = 46 then pl else pl ++ [s[k]] := by
                rw [htk, List.filter_append, hpl]
                have : (bs s)[k] = s[k] := rfl
                rw [this]
                by_cases h46 : s[k] = 46
                · rw [if_pos h46, h46]; simp
                · rw [if_neg h46]; simp [h46]
              have HNX := Lib.hid hnx
              have hno : ¬ 9223372036854775807 < pl.length + (min (k + 1) s.size - k) := by omega
              clear hnx hpl htk hfl
              by_cases h46 : s[k] = 46
              · have h46I : ((s[k].toNat : Int) != 46) = false := by rw [h46]; rfl
                have hp2 : asB pl = asB (((bs s).take (k + 1)).filter fun c => c != 46) := by rw [HNX.out, if_pos h46]
                have HP2 := Lib.hid hp2
                clear h46 hp2
                go_wp2
                go_roundw
                case rel => exact ⟨k + 1, by omega, by go_num, by rw [HP2.out], trivial⟩
                case measure => simp [RowKit.intOf]; omega
              · have h46I : ((s[k].toNat : Int) != 46) = true := by
                  rw [bne_iff_ne]
                  exact fun e => h46 (UInt8.toNat_inj.1 (by show s[k].toNat = 46; omega))
                have hp2 : asB pl ++ s.extract k (k + 1) = asB (((bs s).take (k + 1)).filter fun c => c != 46) := by
                  rw [HNX.out, if_neg h46, cut_eq s k 1, List.drop_eq_getElem_cons hkb]
                  refine str_eq ?_
                  show bs _ = bs _
                  rw [bs_append]
                  rfl
                have HP2 := Lib.hid hp2
                clear h46 hp2
                go_wp2
                refine ⟨⟨k + 1, by omega, by go_num, by rw [HP2.out], trivial⟩, ?_⟩
                simp [RowKit.intOf]; omega
            · obtain rfl : k = s.size := by omega
              rw [List.take_of_length_le (by rw [size_bs]; exact Nat.le_refl _), ← U1.out]
              have hfl : R.texts.flatten.length ≤ 100 := by rw [U1.out]; exact Nat.le_trans (List.length_filter_le _ _) (by rw [size_bs]; omega)
              go_wp2
              go_loopw [15, 16, 17] (fun p d i wr => ∃ k : Nat, k ≤ R.texts.length ∧ i = .int .i64 k ∧ p = .string (asB (R.texts.take k).flatten) ∧ d = .string (asB (dotsOf (R.texts.take k))) ∧ Below w5.heap.size w5 wr) (fun _ _ i _ => R.texts.length - (RowKit.intOf i).toNat)
              case atStart => exact ⟨0, by omega, rfl, rfl, rfl, Below.refl _ _⟩
              case round =>
                obtain ⟨k, hk, rfl, rfl, rfl, hbr⟩ := hrel
                have HBR := Lib.hid hbr
                clear hbr
                by_cases hkt : k < R.texts.length
                · have hkI : (k : Int) < (R.texts.length : Int) := by omega
                  have hk0 : (0 : Int) ≤ (k : Int) := by omega
                  have hkw : k < R.w.length := by rw [HLN.out]; exact hkt
                  have hot := own_chgS (S := fun _ => False) HO4'.out (.of_below HBR.out) (fun _ _ h => h)
                  have how := own_chgS (S := fun _ => False) HO5.out (.of_below HBR.out) (fun _ _ h => h)
                  have hrs : ReadS wr wr.heap.size A4 R.texts.length (R.texts.map asB) := by
                    unfold ReadS
                    rw [List.map_map]
                    exact Reads.of_own hot
                  obtain ⟨ad, rfl, had, hcell⟩ := hrs.at_ (k := k) (by rw [List.length_map]; exact hkt)
                  rw [List.getElem_map] at hcell
                  obtain ⟨bd, hbd, hbd1, x0, x1⟩ := snd_cells (Reads.of_own how) hkw
                  have htk := List.take_succ_eq_append_getElem hkt
                  have hone := U2.out k (R.w[k]) (R.texts[k]) (List.getElem?_eq_getElem hkw) (List.getElem?_eq_getElem hkt)
                  have hle := len_flat R.texts (List.getElem_mem hkt)
                  have hle1 := flat_take_len R.texts k
                  have hdl := dotsOf_len (R.texts.take k)
                  have htl : (R.texts.take k).length = k := by rw [List.length_take]; omega
                  have hf2 : (R.texts.take (k + 1)).flatten = (R.texts.take k).flatten ++ R.texts[k] := by rw [htk, List.flatten_append]; simp
                  have hd2 : dotsOf (R.texts.take (k + 1)) = if k = 0 then R.texts[k] else dotsOf (R.texts.take k) ++ 46 :: R.texts[k] := by
                    rw [htk, dotsOf_next]
                    by_cases hk00 : k = 0
                    · subst hk00; rfl
                    · rw [if_neg hk00, if_neg (fun e => by rw [e] at htl; exact hk00 htl.symm)]
                  have hkl : k ≤ 32 := by rw [← HLN.out] at hkt; omega
                  generalize R.texts[k] = b at *
                  generalize R.w[k] = x at *
                  have hpb := parse_any (w := wr) (asB b) ⟨_, HN5.out.below HBR.out⟩ (by rw [← size_bs, bs_asB]; unfold maxLen; omega)
                  rw [bs_asB, hone] at hpb
                  obtain ⟨al, hal⟩ : ∃ l, (R.texts.take k).flatten = l := ⟨_, rfl⟩
                  obtain ⟨dl, hdle⟩ : ∃ l, dotsOf (R.texts.take k) = l := ⟨_, rfl⟩
                  rw [hal] at hf2 hle1 hdl ⊢
                  rw [hdle] at hd2 hdl ⊢
                  have hdle' := hdle
                  have hb1 : b.length ≤ 100 := by omega
                  have hb2 : al.length ≤ 100 := by omega
                  have hb3 : dl.length ≤ 132 := by omega
                  have hn1 : ¬ 9223372036854775807 < al.length + b.length := by omega
                  have hn2 : ¬ 9223372036854775807 < dl.length + 1 := by omega
                  have hn3 : ¬ 9223372036854775807 < dl.length + 1 + b.length := by omega
                  have hn4 : ¬ 9223372036854775807 < dl.length + b.length := by omega
                  have hA2 : asB al ++ asB b = asB (R.texts.take (k + 1)).flatten := by
                    rw [hf2]; refine str_eq ?_; show bs _ = bs _; rw [bs_append]; rfl
                  have hxc : ∀ W, Below wr.heap.size wr W → W.cell? (bd.add (k * 2)) = some (.int .u32 x.1) ∧ W.cell? ⟨(bd.add (k * 2)).block, (bd.add (k * 2)).off + 1, none⟩ = some (.int .u32 x.2) := fun W hW => ⟨(hW.cell (by rw [block_of_add]; exact hbd1)).trans x0, (hW.cell (by show (bd.add (k * 2)).block < _; rw [block_of_add]; exact hbd1)).trans x1⟩
                  have HXC := Lib.hid hxc
                  rw [hbd]
                  have HPB := Lib.hid hpb; have HOT := Lib.hid hot; have HOW := Lib.hid how; have HA2 := Lib.hid hA2; have HD2 := Lib.hid hd2
                  clear hxc hpb hot how hrs htk hone hle hle1 hdl htl hf2 hd2 hal hdle hA2 x0 x1
                  by_cases hk00 : k = 0
                  · have hkz : ¬ (0 : Int) < (k : Int) := by omega
                    have hdz : asB b = asB (dotsOf (R.texts.take (k + 1))) := by rw [HD2.out, if_pos hk00]
                    have HDZ := Lib.hid hdz
                    have hd0 : dl = [] := by rw [← hdle', hk00]; rfl
                    subst hd0
                    clear hk00 hdz hdle'
                    go_wp2_with fail
                    refine HPB.out.mono ?_
                    rintro e w6 ⟨v6, rfl, ho6, hb6⟩
                    obtain ⟨A6, c6, rfl, hc6, -⟩ := ownsRow_form ho6
                    obtain ⟨cd, rfl, hcd, z0, z1⟩ := snd_cells (l := [x]) (Reads.of_own ho6) (i := 0) (by simp)
                    simp only [List.getElem_cons_zero, Nat.zero_mul] at z0 z1
                    have e0 : cd.add 0 = cd := by unfold Addr.add; rw [if_pos rfl]
                    rw [e0] at z0 z1
                    obtain ⟨hx0, hx1⟩ := HXC.out w6 hb6
                    have HB6 := Lib.hid (HBR.out.trans (hb6.mono HBR.out.size))
                    clear ho6 hb6 e0 HPB HOT HOW HXC hcell
                    go_wp2
                    go_region
                    go_wp2
                    go_roundw
                    case rel => exact ⟨k + 1, by omega, by go_num, by rw [HA2.out], by first | (rw [HDZ.out]; done) | (rw [← HDZ.out]; rfl), HB6.out.drew⟩
                    case measure => simp [RowKit.intOf]; omega
                  · have hkz : (0 : Int) < (k : Int) := by omega
                    have hdz : asB dl ++ ⟨#[46]⟩ ++ asB b = asB (dotsOf (R.texts.take (k + 1))) := by
                      rw [HD2.out, if_neg hk00]; refine str_eq ?_; show bs _ = bs _; rw [bs_append, bs_append, List.append_assoc]; rfl
                    have HDZ := Lib.hid hdz
                    clear hk00 hdz hdle'
                    go_wp2_with fail
                    refine HPB.out.mono ?_
                    rintro e w6 ⟨v6, rfl, ho6, hb6⟩
                    obtain ⟨A6, c6, rfl, hc6, -⟩ := ownsRow_form ho6
                    obtain ⟨cd, rfl, hcd, z0, z1⟩ := snd_cells (l := [x]) (Reads.of_own ho6) (i := 0) (by simp)
                    simp only [List.getElem_cons_zero, Nat.zero_mul] at z0 z1
                    have e0 : cd.add 0 = cd := by unfold Addr.add; rw [if_pos rfl]
                    rw [e0] at z0 z1
                    obtain ⟨hx0, hx1⟩ := HXC.out w6 hb6
                    have HB6 := Lib.hid (HBR.out.trans (hb6.mono HBR.out.size))
                    clear ho6 hb6 e0 HPB HOT HOW HXC hcell
                    go_wp2
                    go_region
                    go_wp2
                    go_roundw
                    case rel => exact ⟨k + 1, by omega, by go_num, by rw [HA2.out], by rw [HDZ.out], HB6.out.drew⟩
                    case measure => simp [RowKit.intOf]; omega
                · obtain rfl : k = R.texts.length := by omega
                  rw [List.take_length]
                  have hdl := dotsOf_len R.texts
                  have hsame := HSM.out wr (HN5.out.below HBR.out) (asB (dotsOf R.texts)) (by rw [← size_bs, bs_asB]; unfold maxLen; rw [← HLN.out] at hdl; omega)
                  have hst : sameR L ms (bs s) (dotsOf R.texts) = true := by
                    unfold sameR
                    rw [HRR.out, U3.out, decide_eq_true HE.out]; simp
                  rw [show sameR L ms (bs s) (bs (asB (dotsOf R.texts))) = true from hst] at hsame
                  have HSME := Lib.hid hsame
                  clear hdl hsame hst
                  go_wp2_with fail
                  refine HSME.out.mono ?_
                  rintro e w7 ⟨rfl, hb7⟩
                  have HB7 := Lib.hid (HB5.out.trans ((HBR.out.trans (hb7.mono HBR.out.size)).mono HB5.out.size))
                  clear hb7 HSME
                  go_wp2_with fail
                  refine (HWE.out _ HB7.out).mono ?_
                  rintro e w9 ⟨rfl, hb9⟩
                  have HB9 := Lib.hid hb9
                  clear hb9
                  go_wp2
                  go_ret
                  exact ⟨rfl, HB9.out⟩
        · have e1 : (R.e != 0) = true := by rw [bne_iff_ne]; exact hE
          obtain ⟨hw, ht, c, hc, hat, -, -⟩ := readR_err HD.out (t := bs s) (by rw [HRR.out]; exact hE)
          rw [HRR.out] at hat hw ht
          have hsk := skipD_le c ((bs s).drop c)
          rw [List.length_drop] at hsk
          have hal : R.at_ ≤ s.size := by rw [size_bs] at hsk hc; omega
          have hw0 : R.w.length = 0 := by rw [hw]; rfl
          have ht0 : R.texts.length = 0 := by rw [ht]; rfl
          generalize R.at_ = a at *
          rw [hw0, ht0]
          have ha0 : (0 : Int) ≤ (a : Int) := by omega
          have ha1 : (a : Int) ≤ (s.size : Int) := by omega
          clear hE hw ht hat hsk hc hw0 ht0 hal HO4' HO5
          go_wp2_with fail
          refine (HWE.out _ HB5.out).mono ?_
          rintro e w9 ⟨rfl, hb9⟩
          have HB9 := Lib.hid hb9
          clear hb9
          go_wp2
          go_ret
          exact ⟨rfl, HB9.out⟩
  · have e1 : (caseE fs ms != 0) = true := by rw [bne_iff_ne]; exact hE
    have hB2 := HB1.out.trans (hb2.mono HB1.out.size)
    have HB2 := Lib.hid hB2
    clear hB2 hb2 hE k0 k1 k2
    go_wp2_with fail
    refine (HWE.out _ HB2.out).mono ?_
    rintro e w3 ⟨rfl, hb3⟩
    have HB3 := Lib.hid hb3
    clear hb3
    go_wp2
    go_ret
    exact ⟨rfl, HB3.out⟩
end Go.Proofs.YtohggdfplmlinaaDoor
