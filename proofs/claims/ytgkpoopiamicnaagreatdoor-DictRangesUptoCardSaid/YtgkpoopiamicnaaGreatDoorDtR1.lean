/-
  Layer 40: the reference's alphabets of letters that are long; the reference's words. Conditions: at most 40 MB. (Printed by r1.py.)
-/
import Derived.Test.YtgkpoopiamicnaaGreatDoorZbas
namespace Go.Proofs.YtgkpoopiamicnaaGreatDoor
open Go.RowKit Go.Lib

set_option maxRecDepth 20000 in
set_option maxHeartbeats 1000000 in
theorem refpiecesM_any (s : ByteArray) (w : World) (hs : s.size ≤ 67108864) :
    Calls Tryz.prog 47 #[.string s] w (GivesS w (piecesB s)) := by
  obtain ⟨i0, hi, hz0, hz1, hz2⟩ := info_parts info_string
  have hle := piecesB_le s
  go_enter Tryz.func47, Tryz.ntmps47
  go_wp2
  go_loopw [3, 4, 5] (fun v f i wr => ∃ (k fr : Nat) (done : List ByteArray), k ≤ s.size + 1 ∧ fr ≤ s.size + 1 ∧ i = .int .i64 k ∧ f = .int .i64 fr ∧ wr.ownsRow w.heap.size 9 1 v done.length (done.map Value.string) ∧
      (k ≤ s.size → PiecesAt s fr k done) ∧ (k = s.size + 1 → piecesB s = done) ∧ done.length ≤ k ∧ Below w.heap.size w wr) (fun _ _ i _ => s.size + 1 - (RowKit.intOf i).toNat)
  case atStart => exact ⟨0, 0, [], by omega, by omega, rfl, rfl, World.ownsRow_nil _ _ _ _, fun _ => piecesAt_start s, fun h => absurd h (by omega), Nat.le_refl _, Below.refl _ _⟩
  case round =>
    obtain ⟨k, fr, done, hk, hfr, rfl, rfl, hown, hP, hE, hdl, hb⟩ := hrel
    by_cases hlt : k ≤ s.size
    · have HP := Lib.hid (hP hlt)
      clear hP hE
      have hfk := HP.out.1
      have hM : done.length + 1 ≤ 67108865 := by omega
      by_cases hlt2 : k < s.size
      · have hkb : ((k : Int) == s.size) = false := beq_eq_false_iff_ne.2 (by omega)
        by_cases hc : s[k].toNat = 32
        · have hcb : ((s[k].toNat : Int) == 32) = true := beq_iff_eq.2 (by omega)
          have HC := Lib.hid hc; clear hc
          go_wp2_with (at_builtin; refine wpList_append_own _ rfl _ _ 22 rfl w.heap.size 9 i0 (.string ByteArray.empty) 1 16 Tryz.underlying22 hi hz0 hz1 hz2 rfl (by decide) _ _ _ rfl (hown.alloc _) ⟨wr.heap.size, 0, none⟩ 1 1 [.string (s.extract fr k)] rfl rfl (cell_one_new _ _ _) (by simp [Value.oneCell']) (by unfold maxLen; omega) (by omega) (by have := hb.size; simp; omega) ?_; intro v' w1 hown' hgrow _)
          have hb1 : Below w.heap.size w w1 := (hb.alloc hb.size _).grown hgrow (by have := hb.size; simp; omega) (fun g hg => (hown.lt g hg).1)
          clear hgrow hown
          go_roundw
          case rel => exact ⟨k + 1, k + 1, done ++ [s.extract fr k], by omega, by omega, by go_num, by go_num, by simpa using hown', fun _ => piecesAt_cut HP.out hlt2 (UInt8.toNat_inj.1 HC.out), fun h => absurd h (by omega), by rw [List.length_append, List.length_singleton]; omega, hb1⟩
          case measure => simp [RowKit.intOf]; omega
        · have hcb : ((s[k].toNat : Int) == 32) = false := beq_eq_false_iff_ne.2 (by omega)
          go_wp2
          go_roundw
          case rel => exact ⟨k + 1, fr, done, by omega, by omega, by go_num, rfl, hown, fun _ => piecesAt_go HP.out hlt2 (fun e => hc (by rw [e]; rfl)), fun h => absurd h (by omega), by omega, hb⟩
          case measure => simp [RowKit.intOf]; omega
      · obtain rfl : k = s.size := by omega
        go_wp2_with (at_builtin; refine wpList_append_own _ rfl _ _ 22 rfl w.heap.size 9 i0 (.string ByteArray.empty) 1 16 Tryz.underlying22 hi hz0 hz1 hz2 rfl (by decide) _ _ _ rfl (hown.alloc _) ⟨wr.heap.size, 0, none⟩ 1 1 [.string (s.extract fr s.size)] rfl rfl (cell_one_new _ _ _) (by simp [Value.oneCell']) (by unfold maxLen; omega) (by omega) (by have := hb.size; simp; omega) ?_; intro v' w1 hown' hgrow _)
        have hb1 : Below w.heap.size w w1 := (hb.alloc hb.size _).grown hgrow (by have := hb.size; simp; omega) (fun g hg => (hown.lt g hg).1)
        clear hgrow hown
        go_roundw
        case rel => exact ⟨s.size + 1, s.size + 1, done ++ [s.extract fr s.size], by omega, by omega, by go_num, by go_num, by simpa using hown', fun h => absurd h (by omega), fun _ => piecesAt_end HP.out, by rw [List.length_append, List.length_singleton]; omega, hb1⟩
        case measure => simp [RowKit.intOf]
    · have HE := Lib.hid (hE (by omega))
      clear hP hE
      go_wp2
      go_ret
      refine ⟨_, rfl, ?_, hb⟩
      rw [HE.out]; exact hown
set_option maxRecDepth 20000 in
set_option maxHeartbeats 4000000 in
theorem refNewM_any (A : Option Addr) (n c : Nat) (ss : List ByteArray) (w : World) (hr : ReadS w w.heap.size A n ss) (hn : n ≤ 1000) (ht : totalS ss ≤ 41943040) :
    Calls Tryz.prog 11 #[.slice A n c] w (RefNewPost w ss) := by
  obtain ⟨i0, hi, hz0, hz1, hz2⟩ := info_parts (show (Tryz.prog.info? 22).map (fun i => (i.zero, i.size, i.bytes)) = some (some (.slice none 0 0), 1, 24) by kernel_rfl)
  have HL := Lib.hid hr.len
  go_enter Tryz.func11, Tryz.ntmps11
  go_wp2
  have hb0 : Below w.heap.size w (w.alloc (.cells #[.bool true, .slice none 0 0] 108)) := (Below.refl _ _).alloc (Nat.le_refl _) _
  go_loopw [5, 6] (fun t i wr => ∃ (k : Nat) (v : Value), k ≤ n ∧ i = .int .i64 k ∧ t = .int .i64 (totalP (ss.take k)) ∧ Blk wr w.heap.size 108 #[.bool true, v] ∧ OwnM wr w.heap.size 22 9 v (strM (groupsB (ss.take k))) ∧ Below w.heap.size w wr) (fun _ i _ => n - (RowKit.intOf i).toNat)
  case atStart => exact ⟨0, .slice none 0 0, by omega, rfl, by simp [totalP, groupsB], Blk.new _ _ _, OwnM.nil_ _ _ _ _, hb0⟩
  case round =>
    obtain ⟨k, v, hk, rfl, rfl, hblk, hM, hb⟩ := hrel
    clear hb0
    by_cases hlt : k < n
    · have hks : k < ss.length := by rw [HL.out]; exact hlt
      obtain ⟨ad, rfl, had, hc0⟩ := hr.at_ (k := k) hks
      have hcr := (hb.cell (p := ad.add k) (by rw [block_of_add]; exact had)).trans hc0
      have hsz : ss[k].size ≤ 41943040 := Nat.le_trans (totalS_mem (List.getElem_mem _)) ht
      have htp := totalP_le (ss.take k)
      have htl := totalS_take ss k
      rw [List.length_take, HL.out, Nat.min_eq_left hk] at htp
      have hT := totalP_succ ss k hks
      have hG : groupsB (ss.take (k + 1)) = groupsB (ss.take k) ++ [piecesB ss[k]] := by
        unfold groupsB; rw [List.take_succ_eq_append_getElem hks, List.map_append]; rfl
      have hpl := piecesB_le ss[k]
      have hpc := refpiecesM_any ss[k] wr (by omega)
      clear hc0
      generalize hx : ss[k] = x at hcr hsz hpl hpc hT hG
      have HT := Lib.hid hT; have HG := Lib.hid hG
      clear hx hT hG
      go_wp2_with fail
      refine hpc.mono ?_
      rintro e w1 ⟨u, rfl, hu, hbu⟩
      obtain ⟨Au, cu, rfl, hcu1, hcu2⟩ := ownsRow_form hu
      have hu' := own_mono hu hb.size
      have hb1 := hb.trans (hbu.mono hb.size)
      have hM1 := hM.below hbu
      have hblk1 := hblk.below hbu hblk.lt
      clear hM hblk hu hcr hpc hcu1
      obtain ⟨vs, hvs, hvl, hvk⟩ := id hM1
      have hgl : (groupsB (ss.take k)).length = k := by simp [groupsB, HL.out]; omega
      simp only [strM, List.length_map, hgl] at hvs
      obtain ⟨Av, cv, rfl, hcv1, hcv2⟩ := ownsRow_form hvs
      have hstr := hblk1.cell 1
      simp only [List.getElem?_toArray, List.getElem?_cons_succ, List.getElem?_cons_zero] at hstr
      clear hgl hvk hvl
      go_wp2_with (at_builtin; refine wpList_append_own _ rfl _ _ 69 rfl w.heap.size 22 i0 (.slice none 0 0) 1 24 Tryz.underlying69 hi hz0 hz1 hz2 rfl (by decide) _ _ _ rfl (hvs.alloc _) ⟨w1.heap.size, 0, none⟩ 1 1 [.slice Au (piecesB x).length cu] rfl rfl (cell_one_new _ _ _) (by simp [Value.oneCell']) (by unfold maxLen; omega) (by omega) (by have := hb1.size; simp; omega) ?_; intro v' w2 hown' hgrow _; obtain ⟨A2, c2, rfl, _, _⟩ := ownsRow_form hown'; have hblk2 := (hblk1.alloc _).grown hgrow (fun e => own_blk_ne hvs hblk1 (by decide) e.symm); have hst2 := hblk2.cell 1; simp only [List.getElem?_toArray, List.getElem?_cons_succ, List.getElem?_cons_zero] at hst2; have hfz2 := hblk2.frozen 1)
      have hb2 : Below w.heap.size w w2 := (hb1.alloc hb1.size _).grown hgrow (by have := hb1.size; simp; omega) (fun g hg => (hvs.lt g hg).1)
      have hM2 := (hM1.alloc (.cells #[.slice Au (piecesB x).length cu] 22)).push (u := .slice Au (piecesB x).length cu) (xs := (piecesB x).map Value.string) (by decide) (by rw [List.length_map]; exact hu'.alloc _) (hvs.alloc _) hgrow hown'
      clear hgrow hvs hown' hblk1 hM1 hb1 hu' hbu
      go_roundw
      case rel =>
        refine ⟨k + 1, _, by omega, by go_num, by rw [HT.out]; go_num, hblk2.set_ 1 _, ?_, hb2.setCell (p := ⟨w.heap.size, 1, none⟩) (Nat.le_refl _) _⟩
        rw [HG.out, strM, List.map_append]
        exact hM2.other (grown_setCell _ _ _) hblk2 (by decide) (by decide)
      case measure => simp [RowKit.intOf]; omega
    · obtain rfl : k = n := by omega
      have hts : ss.take k = ss := List.take_of_length_le (by rw [HL.out]; exact Nat.le_refl _)
      rw [hts] at hM ⊢
      clear hts hlt
      have htp := totalP_le ss
      rw [HL.out] at htp
      have hgl : (groupsB ss).length = k := by simp [groupsB, HL.out]
      have HGL := Lib.hid hgl; clear hgl
      by_cases hbig : 256 < totalP ss
      · have he : newErr ss = 12 := by unfold newErr; rw [if_pos hbig]
        have HE := Lib.hid he; clear he
        go_wp2
        go_ret2
        exact ⟨fun _ => by rw [HE.out]; rfl, fun h => by rw [HE.out] at h; omega, hb⟩
      · have hlet := refLetters_any w.heap.size (groupsB ss) wr ⟨_, _, hblk, hM⟩ (by unfold totalP at hbig htp; omega) (by rw [HGL.out]; unfold maxLen; omega)
        have hM' : RefAlph wr w.heap.size (groupsB ss) := ⟨_, _, hblk, hM⟩
        clear hM hblk
        have hfl : (groupsB ss).flatten.length = totalP ss := rfl
        have hfm : ∀ x ∈ (groupsB ss).flatten, x.size ≤ 41943040 := by
          intro x hx
          obtain ⟨l, hl, hxl⟩ := List.mem_flatten.1 hx
          obtain ⟨s, hs, rfl⟩ := List.mem_map.1 hl
          exact Nat.le_trans (piecesB_size hxl) (Nat.le_trans (totalS_mem hs) ht)
        have HD : Hid (newErr ss = if (groupsB ss).flatten.all (fun x => letterB (bl x)) = false then 15 else if dupB (groupsB ss).flatten then 6 else 0) := by
          unfold newErr Hid; rw [if_neg hbig]
        generalize (groupsB ss).flatten = fl at hlet hfl hfm HD
        generalize hT : totalP ss = T at hbig hfl htp
        have HT := Lib.hid hT; have HFL := Lib.hid hfl; clear hT hfl
        go_wp2_with fail
        refine hlet.mono ?_
        rintro e w3 ⟨u, rfl, hu, hbu⟩
        obtain ⟨Au, cu, rfl, hcu1, hcu2⟩ := ownsRow_form hu
        rw [HFL.out] at hu hcu1
        have hRd : ReadS w3 w3.heap.size Au T fl := Reads.of_own hu
        have hb3 := hb.trans (hbu.mono hb.size)
        have hM3 := hM'.below hbu
        clear hu hlet hM' hb hbu hcu2
        rw [HFL.out]
        go_wp2_with fail
        have hT256 : T ≤ 256 := by omega
        clear hbig htp hcu1
        go_loop [9] (fun i => ∃ (j : Nat), j ≤ T ∧ i = .int .i64 j ∧ (fl.take j).all (fun x => letterB (bl x)) = true) (fun i => T - (RowKit.intOf i).toNat)
        case atStart => exact ⟨0, by omega, rfl, by simp⟩
        case round =>
          obtain ⟨j, hj, rfl, hall⟩ := hrel
          have HA := Lib.hid hall; clear hall
          by_cases hjl : j < T
          · have hjf : j < fl.length := by rw [HFL.out]; exact hjl
            obtain ⟨ad, hA, _, hcj⟩ := hRd.at_ (k := j) hjf
            subst hA
            have hlc := refletter_any fl[j] w3 (by have := hfm fl[j] (List.getElem_mem _); unfold maxLen; omega)
            have htk : (fl.take (j + 1)).all (fun x => letterB (bl x)) = ((fl.take j).all (fun x => letterB (bl x)) && letterB (bl fl[j])) := by
              rw [List.take_succ_eq_append_getElem hjf, List.all_append]; simp
            have hbad : letterB (bl fl[j]) = false → fl.all (fun x => letterB (bl x)) = false := fun h => by
              rw [List.all_eq_false]; exact ⟨fl[j], List.getElem_mem _, by simp [h]⟩
            generalize letterB (bl fl[j]) = lb at hlc htk hbad
            have HTK := Lib.hid htk; have HB := Lib.hid hbad; clear htk hbad
            cases lb with
            | true =>
              go_wp2_with (go_at_call 49; refine hlc.mono ?_; rintro e w' ⟨rfl, rfl⟩)
              go_round
              case rel => exact ⟨j + 1, by omega, by go_num, by rw [HTK.out, HA.out]; rfl⟩
              case measure => simp [RowKit.intOf]; omega
            | false =>
              have hE : newErr ss = 15 := by rw [HD.out, if_pos (HB.out rfl)]
              have HE := Lib.hid hE; clear hE
              go_wp2_with (go_at_call 49; refine hlc.mono ?_; rintro e w' ⟨rfl, rfl⟩)
              go_ret2
              exact ⟨fun _ => by rw [HE.out]; rfl, fun h => by rw [HE.out] at h; omega, hb3⟩
          · obtain rfl : T = j := by omega
            rw [List.take_of_length_le (by rw [HFL.out]; exact Nat.le_refl _)] at HA
            have HD2 : Hid (newErr ss = if dupB fl then 6 else 0) := by
              unfold Hid; rw [HD.out, if_neg (by rw [HA.out]; decide)]
            clear HD HA hjl
            go_wp2_with fail
            go_loopw [10] (fun i wr => ∃ (j q : Nat), j ≤ T ∧ i = .int .i64 j ∧ wr = w3.drewN q ∧ (fl.take j).Nodup) (fun i _ => T - (RowKit.intOf i).toNat)
            case atStart => exact ⟨0, 0, by omega, rfl, rfl, by simp⟩
            case round =>
              obtain ⟨j1, q, hj1, rfl, rfl, hnd⟩ := hrel
              have HN := Lib.hid hnd; clear hnd
              by_cases hjl : j1 < T
              · have hjf : j1 < fl.length := by rw [HFL.out]; exact hjl
                obtain ⟨ad, hA, _, hcj⟩ := hRd.at_ (k := j1) hjf
                subst hA
                have hin : fl[j1] ∉ fl.take j1 → (fl.take (j1 + 1)).Nodup := fun h => by
                  rw [List.take_succ_eq_append_getElem hjf, List.nodup_append]
                  exact ⟨HN.out, by simp, fun a ha b hb e => by simp at hb; subst hb; subst e; exact h ha⟩
                have hout : fl[j1] ∈ fl.take j1 → dupB fl = true := fun h => by
                  unfold dupB
                  refine decide_eq_true fun hn => ?_
                  obtain ⟨i, hi, he⟩ := List.getElem_of_mem h
                  rw [List.getElem_take] at he
                  have hi' : i < j1 := by rw [List.length_take] at hi; omega
                  exact absurd he (List.pairwise_iff_getElem.1 hn i j1 (by omega) hjf hi')
                have hmem : ∀ (j2 : Nat) (h2 : j2 < fl.length), fl[j1] ∉ fl.take j2 → fl[j1] ≠ fl[j2] → fl[j1] ∉ fl.take (j2 + 1) := fun j2 h2 h e => by
                  rw [List.take_succ_eq_append_getElem h2, List.mem_append]
                  rintro (h' | h')
                  · exact h h'
                  · simp at h'; exact e h'
                have hmem2 : ∀ (j2 : Nat) (h2 : j2 < fl.length), j2 < j1 → fl[j1] = fl[j2] → fl[j1] ∈ fl.take j1 := fun j2 h2 hl e => by
                  rw [e]; exact List.mem_take_iff_getElem.2 ⟨j2, by omega, rfl⟩
                generalize hx : fl[j1] = x at hcj hin hout hmem hmem2
                have HX := Lib.hid hx; have HIN := Lib.hid hin; have HOUT := Lib.hid hout; have HM := Lib.hid hmem; have HM2 := Lib.hid hmem2
                clear hx hin hout hmem hmem2 HN
                go_wp2_with fail
                go_loopw [11] (fun i wr => ∃ (j2 q2 : Nat), j2 ≤ j1 ∧ i = .int .i64 j2 ∧ wr = w3.drewN q2 ∧ x ∉ fl.take j2) (fun i _ => j1 - (RowKit.intOf i).toNat)
                case atStart => exact ⟨0, q, by omega, rfl, rfl, by simp⟩
                case round =>
                  obtain ⟨j2, q2, hj2, rfl, rfl, hnin⟩ := hrel
                  have HNI := Lib.hid hnin; clear hnin
                  by_cases hj2l : j2 < j1
                  · have hj2f : j2 < fl.length := by rw [HFL.out]; omega
                    obtain ⟨ad', hA', _, hcj2⟩ := hRd.at_ (k := j2) hj2f
                    injection hA' with hA'; subst hA'
                    by_cases hxe : x = fl[j2]
                    · have hbe : (x.toList == fl[j2].toList) = true := by rw [← hxe]; simp
                      have hE : newErr ss = 6 := by rw [HD2.out, if_pos (HOUT.out (HM2.out j2 hj2f hj2l hxe))]
                      have HE := Lib.hid hE; clear hE
                      generalize fl[j2] = y at hcj2 hbe
                      clear hxe
                      go_wp2_with fail
                      go_quiet (fail)
                      go_wp2
                      go_ret2
                      exact ⟨fun _ => by rw [HE.out]; rfl, fun h => by rw [HE.out] at h; omega, ⟨hb3.os, hb3.tape, hb3.output, hb3.size, hb3.block⟩⟩
                    · have hbe : (x.toList == fl[j2].toList) = false := by
                        rw [beq_eq_false_iff_ne]; intro h; exact hxe (ByteArray.ext (by rw [← Array.toList_inj, ← ByteArray.toList_eq, ← ByteArray.toList_eq]; exact h))
                      have hnn := HM.out j2 hj2f HNI.out hxe
                      have HNN := Lib.hid hnn; clear hnn
                      generalize fl[j2] = y at hcj2 hbe
                      clear hxe
                      go_wp2_with fail
                      go_quiet (fail)
                      go_wp2
                      go_roundw
                      case rel => exact ⟨j2 + 1, _, by omega, by go_num, rfl, HNN.out⟩
                      case measure => simp [RowKit.intOf]; omega
                  · obtain rfl : j2 = j1 := by omega
                    go_wp2
                    go_roundw
                    case rel => exact ⟨j2 + 1, q2, by omega, by go_num, rfl, HIN.out HNI.out⟩
                    case measure => simp [RowKit.intOf]; omega
              · obtain rfl : T = j1 := by omega
                rw [List.take_of_length_le (by rw [HFL.out]; exact Nat.le_refl _)] at HN
                have hE : newErr ss = 0 := by rw [HD2.out, if_neg]; unfold dupB; simp; exact HN.out
                have HE := Lib.hid hE; clear hE HD2 HN
                go_wp2
                go_ret2
                exact ⟨fun h => absurd HE.out h, fun _ => ⟨w.heap.size, rfl, hM3⟩, ⟨hb3.os, hb3.tape, hb3.output, hb3.size, hb3.block⟩⟩
theorem smallG_of {ss : List ByteArray} (hn : ss.length ≤ 1000) (h : newErr ss = 0) : SmallG (groupsB ss) := by
  unfold newErr at h
  split at h
  · omega
  split at h
  · omega
  rename_i h1 h2
  have h2 : (groupsB ss).flatten.all (fun x => letterB (bl x)) = true := by simpa using h2
  unfold totalP at h1
  refine ⟨by unfold groupsB; rw [List.length_map]; omega, fun l hl => ?_, fun l hl x hx => ?_⟩
  · have : l.length ≤ (groupsB ss).flatten.length := by
      obtain ⟨a, b, e⟩ := List.append_of_mem hl
      rw [e, List.flatten_append, List.flatten_cons, List.length_append, List.length_append]
      omega
    omega
  · have h3 := List.all_eq_true.1 h2 x (List.mem_flatten.2 ⟨l, hl, hx⟩)
    unfold letterB at h3
    simp only [Bool.and_eq_true, decide_eq_true_iff] at h3
    have h4 := bl_len x
    omega
set_option maxRecDepth 20000 in
theorem rvalid2_any (s : Snd) (w : World) (hs : ok32 s) : Calls Tryz.prog 166 #[sndV s] w fun e w' => e = .returned (.bool (validS s)) ∧ Below w.heap.size w w' := by
  have e1 := u32_and_nat s.1 s.2 hs.1 hs.2
  obtain ⟨r, hr⟩ : ∃ r, validS s = r := ⟨_, rfl⟩
  rw [hr]
  by_cases h1 : s.1 &&& s.2 = 0
  · by_cases h2 : s.1 < 16777216
    · by_cases h3 : s.2 < 16777216
      · rw [validS_true h1 (or_lt24.2 ⟨h2, h3⟩)] at hr
        subst hr
        obtain ⟨a, b⟩ := s
        simp only [] at *
        rw [h1] at e1
        have h2I : (a : Int) < 16777216 := by omega
        have h3I : (b : Int) < 16777216 := by omega
        clear h1 hs
        go_enter Tryz.func166, Tryz.ntmps166
        go_wp2
        go_ret
        exact ⟨rfl, (Below.refl _ _).alloc (Nat.le_refl _) _⟩
      · rw [validS_or (fun h => h3 (or_lt24.1 h).2)] at hr
        subst hr
        obtain ⟨a, b⟩ := s
        simp only [] at *
        rw [h1] at e1
        have h2I : (a : Int) < 16777216 := by omega
        have h3I : ¬ (b : Int) < 16777216 := by omega
        clear h1 hs
        go_enter Tryz.func166, Tryz.ntmps166
        go_wp2
        go_ret
        exact ⟨rfl, (Below.refl _ _).alloc (Nat.le_refl _) _⟩
    · rw [validS_or (fun h => h2 (or_lt24.1 h).1)] at hr
      subst hr
      obtain ⟨a, b⟩ := s
      simp only [] at *
      rw [h1] at e1
      have h2I : ¬ (a : Int) < 16777216 := by omega
      clear h1 hs
      go_enter Tryz.func166, Tryz.ntmps166
      go_wp2
      go_ret
      exact ⟨rfl, (Below.refl _ _).alloc (Nat.le_refl _) _⟩
  · rw [validS_and h1] at hr
    subst hr
    obtain ⟨a, b⟩ := s
    simp only [] at *
    generalize a &&& b = x at *
    have h1I : ((x : Int) == 0) = false := by rw [beq_eq_false_iff_ne]; omega
    clear h1 hs
    go_enter Tryz.func166, Tryz.ntmps166
    go_wp2
    go_ret
    exact ⟨rfl, (Below.refl _ _).alloc (Nat.le_refl _) _⟩
set_option maxRecDepth 20000 in
set_option maxHeartbeats 1000000 in
theorem refWord_any (A : Option Addr) (n c B : Nat) (ws : List Snd) (w : World) (hr : Reads w B 2 A n (ws.flatMap sndC)) (hB : B ≤ w.heap.size) (hn : n ≤ maxLen) (hok : ∀ s ∈ ws, ok32 s) :
    Calls Tryz.prog 114 #[.slice A n c] w fun e w' => e = .returned (.int .i64 (wordE ws)) ∧ Below w.heap.size w w' := by
  unfold maxLen at hn
  have hwl := hr.len_of (fun _ => rfl) (by decide)
  obtain ⟨r, hre⟩ : ∃ r, wordE ws = r := ⟨_, rfl⟩
  rw [hre]
  unfold wordE at hre
  rw [hwl] at hre
  have HRE := Lib.hid hre; have HR := Lib.hid hr; have HWL := Lib.hid hwl; have HOK := Lib.hid hok
  clear hr hwl hok hre
  by_cases h32 : 32 < n
  · have h32I : (32 : Int) < n := by omega
    go_enter Tryz.func114, Tryz.ntmps114
    go_wp2
    go_ret
    exact ⟨by rw [← HRE.out, if_pos h32]; rfl, Below.refl _ _⟩
  · have h32I : ¬ (32 : Int) < n := by omega
    go_enter Tryz.func114, Tryz.ntmps114
    go_wp2
    go_loopw [3] (fun i wr => ∃ k : Nat, k ≤ n ∧ i = .int .i64 k ∧ (ws.take k).all validS = true ∧ Below w.heap.size w wr) (fun i _ => n - (RowKit.intOf i).toNat)
    case atStart => exact ⟨0, by omega, rfl, by simp, Below.refl _ _⟩
    case round =>
      obtain ⟨k, hk, rfl, hall, hb⟩ := hrel
      have HALL := Lib.hid hall; have HB := Lib.hid hb
      clear hall hb
      by_cases hlt : k < n
      · have hkl : k < ws.length := by rw [HWL.out]; exact hlt
        have hkI : (k : Int) < (n : Int) := by omega
        obtain ⟨ad, rfl, had, hc0, hc1⟩ := snd_cells (HR.out.below (HB.out.mono hB)) hkl
        have hst : (ws.take (k + 1)).all validS = ((ws.take k).all validS && validS ws[k]) := by rw [List.take_succ_eq_append_getElem hkl, List.all_append]; simp
        have HST := Lib.hid hst
        have hmem := List.getElem_mem hkl
        clear hst
        cases hv : validS ws[k]
        · have hmem' : ¬ (ws.all validS = true) := fun h => by rw [List.all_eq_true.1 h _ hmem] at hv; cases hv
          have HM := Lib.hid hmem'; have HV := Lib.hid hv
          have hOK := HOK.out _ hmem
          clear hmem' hv hmem
          generalize ws[k] = s at *
          go_wp2_with fail
          refine (rvalid2_any s _ hOK).mono ?_
          rw [HV.out]
          rintro e w2 ⟨rfl, hb2⟩
          have HB2 := Lib.hid hb2
          clear hb2
          go_wp2
          go_ret
          exact ⟨by rw [← HRE.out, if_neg h32, if_neg HM.out]; rfl, HB.out.trans (HB2.out.mono HB.out.size)⟩
        · have HV := Lib.hid hv
          have hOK := HOK.out _ hmem
          clear hv hmem
          generalize ws[k] = s at *
          go_wp2_with fail
          refine (rvalid2_any s _ hOK).mono ?_
          rw [HV.out]
          rintro e w2 ⟨rfl, hb2⟩
          have HB2 := Lib.hid hb2
          clear hb2
          go_wp2
          go_roundw
          case rel => exact ⟨k + 1, by omega, by go_num, by rw [HST.out, HALL.out, HV.out]; rfl, HB.out.trans (HB2.out.mono HB.out.size)⟩
          case measure => simp [RowKit.intOf]; omega
      · obtain rfl : k = n := by omega
        go_wp2
        go_ret
        have := HALL.out
        rw [List.take_of_length_le (by rw [HWL.out]; exact Nat.le_refl _)] at this
        exact ⟨by rw [← HRE.out, if_neg h32, if_pos this]; rfl, HB.out⟩
end Go.Proofs.YtgkpoopiamicnaaGreatDoor
