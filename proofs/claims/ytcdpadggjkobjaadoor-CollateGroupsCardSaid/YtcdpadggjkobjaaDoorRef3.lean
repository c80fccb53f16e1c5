/-
  The reference's New of layer 39. Conditions: at most 1000 texts of at most 3,000 bytes in all.
-/
import Derived.Test.YtcdpadggjkobjaaDoorRef2
import Derived.Test.YtcdpadggjkobjaaDoorFew
import Derived.BigQuiet
import Derived.Deep.QuietTactic
namespace Go.Proofs.YtcdpadggjkobjaaDoor
open Go.RowKit

def groupsB (ss : List ByteArray) : List (List ByteArray) := ss.map piecesB
def totalP (ss : List ByteArray) : Nat := (groupsB ss).flatten.length
def dupB (l : List ByteArray) : Bool := decide (¬ l.Nodup)
def newErr (ss : List ByteArray) : Int :=
  if 256 < totalP ss then 12
  else if (groupsB ss).flatten.all (fun x => letterB (bl x)) = false then 15
  else if dupB (groupsB ss).flatten then 6 else 0
/-- What the reference's New hands back. -/
def RefNewPost (w : World) (ss : List ByteArray) (e : Ending) (w' : World) : Prop :=
  (newErr ss ≠ 0 → e = .returned (.tuple #[.pointer none, .int .i64 (newErr ss)])) ∧
  (newErr ss = 0 → ∃ g, e = .returned (.tuple #[.pointer (some ⟨g, 0, none⟩), .int .i64 0]) ∧ RefAlph w' g (groupsB ss)) ∧ Below w.heap.size w w'

theorem totalP_succ (ss : List ByteArray) (k : Nat) (hk : k < ss.length) : totalP (ss.take (k + 1)) = totalP (ss.take k) + (piecesB ss[k]).length := by
  unfold totalP groupsB
  rw [List.take_succ_eq_append_getElem hk, List.map_append, List.flatten_append]; simp
theorem totalP_le (ss : List ByteArray) : totalP ss ≤ totalS ss + ss.length := by
  unfold totalP totalS groupsB
  induction ss with
  | nil => simp
  | cons a l ih =>
    have := piecesB_le a
    simp only [List.map_cons, List.flatten_cons, List.length_append, List.sum_cons, List.length_cons] at ih ⊢
    omega
theorem totalS_take (ss : List ByteArray) (k : Nat) : totalS (ss.take k) ≤ totalS ss := by
  unfold totalS
  conv => rhs; rw [← List.take_append_drop k ss, List.map_append, List.sum_append]
  omega
theorem totalS_mem {ss : List ByteArray} {s : ByteArray} (h : s ∈ ss) : s.size ≤ totalS ss := le_sum_of_mem' (List.mem_map_of_mem h)

set_option maxRecDepth 20000 in
set_option maxHeartbeats 4000000 in
theorem refNew_any (A : Option Addr) (n c : Nat) (ss : List ByteArray) (w : World) (hr : ReadS w w.heap.size A n ss) (hn : n ≤ 1000) (ht : totalS ss ≤ 3000) :
    Calls Tryd.prog 45 #[.slice A n c] w (RefNewPost w ss) := by
  obtain ⟨i0, hi, hz0, hz1, hz2⟩ := info_parts (show (Tryd.prog.info? 22).map (fun i => (i.zero, i.size, i.bytes)) = some (some (.slice none 0 0), 1, 24) by kernel_rfl)
  have HL := Lib.hid hr.len
  go_enter Tryd.func45, Tryd.ntmps45
  go_wp2
  have hb0 : Below w.heap.size w (w.alloc (.cells #[.bool true, .slice none 0 0] 93)) := (Below.refl _ _).alloc (Nat.le_refl _) _
  go_loopw [5, 6] (fun t i wr => ∃ (k : Nat) (v : Value), k ≤ n ∧ i = .int .i64 k ∧ t = .int .i64 (totalP (ss.take k)) ∧ Blk wr w.heap.size 93 #[.bool true, v] ∧ OwnM wr w.heap.size 22 9 v (strM (groupsB (ss.take k))) ∧ Below w.heap.size w wr) (fun _ i _ => n - (intOf i).toNat)
  case atStart => exact ⟨0, .slice none 0 0, by omega, rfl, by simp [totalP, groupsB], Blk.new _ _ _, OwnM.nil_ _ _ _ _, hb0⟩
  case round =>
    obtain ⟨k, v, hk, rfl, rfl, hblk, hM, hb⟩ := hrel
    clear hb0
    by_cases hlt : k < n
    · have hks : k < ss.length := by rw [HL.out]; exact hlt
      obtain ⟨ad, rfl, had, hc0⟩ := hr.at_ (k := k) hks
      have hcr := (hb.cell (p := ad.add k) (by rw [block_of_add]; exact had)).trans hc0
      have hsz : ss[k].size ≤ 3000 := Nat.le_trans (totalS_mem (List.getElem_mem _)) ht
      have htp := totalP_le (ss.take k)
      have htl := totalS_take ss k
      rw [List.length_take, HL.out, Nat.min_eq_left hk] at htp
      have hT := totalP_succ ss k hks
      have hG : groupsB (ss.take (k + 1)) = groupsB (ss.take k) ++ [piecesB ss[k]] := by
        unfold groupsB; rw [List.take_succ_eq_append_getElem hks, List.map_append]; rfl
      have hpl := piecesB_le ss[k]
      have hpc := refpieces_any ss[k] wr (by omega)
      clear hc0
      generalize hx : ss[k] = x at hcr hsz hpl hpc hT hG
      have HT := Lib.hid hT; have HG := Lib.hid hG
      clear hx hT hG
      go_wp2_with fail
      refine hpc.mono ?_
      rintro e w1 ⟨u, rfl, hu, hbu⟩
      obtain ⟨Au, cu, rfl, hcu1, hcu2⟩ := ownsRow_form hu
      have hu' := own_mono hu hb.size
      have hb1 := hb.trans (hbu.mono hb.size)
      have hM1 := hM.below hbu
      have hblk1 := hblk.below hbu hblk.lt
      clear hM hblk hu hcr hpc hcu1
      obtain ⟨vs, hvs, hvl, hvk⟩ := id hM1
      have hgl : (groupsB (ss.take k)).length = k := by simp [groupsB, HL.out]; omega
      simp only [strM, List.length_map, hgl] at hvs
      obtain ⟨Av, cv, rfl, hcv1, hcv2⟩ := ownsRow_form hvs
      have hstr := hblk1.cell 1
      simp only [List.getElem?_toArray, List.getElem?_cons_succ, List.getElem?_cons_zero] at hstr
      clear hgl hvk hvl
      go_wp2_with (at_builtin; refine wpList_append_own _ rfl _ _ 62 rfl w.heap.size 22 i0 (.slice none 0 0) 1 24 Tryd.underlying62 hi hz0 hz1 hz2 rfl (by decide) _ _ _ rfl (hvs.alloc _) ⟨w1.heap.size, 0, none⟩ 1 1 [.slice Au (piecesB x).length cu] rfl rfl (cell_one_new _ _ _) (by simp [Value.oneCell']) (by unfold maxLen; omega) (by omega) (by have := hb1.size; simp; omega) ?_; intro v' w2 hown' hgrow _; obtain ⟨A2, c2, rfl, _, _⟩ := ownsRow_form hown'; have hblk2 := (hblk1.alloc _).grown hgrow (fun e => own_blk_ne hvs hblk1 (by decide) e.symm); have hst2 := hblk2.cell 1; simp only [List.getElem?_toArray, List.getElem?_cons_succ, List.getElem?_cons_zero] at hst2; have hfz2 := hblk2.frozen 1)
      have hb2 : Below w.heap.size w w2 := (hb1.alloc hb1.size _).grown hgrow (by have := hb1.size; simp; omega) (fun g hg => (hvs.lt g hg).1)
      have hM2 := (hM1.alloc (.cells #[.slice Au (piecesB x).length cu] 22)).push (u := .slice Au (piecesB x).length cu) (xs := (piecesB x).map Value.string) (by decide) (by rw [List.length_map]; exact hu'.alloc _) (hvs.alloc _) hgrow hown'
      clear hgrow hvs hown' hblk1 hM1 hb1 hu' hbu
      go_roundw
      case rel =>
        refine ⟨k + 1, _, by omega, by go_num, by rw [HT.out]; go_num, hblk2.set_ 1 _, ?_, hb2.setCell (p := ⟨w.heap.size, 1, none⟩) (Nat.le_refl _) _⟩
        rw [HG.out, strM, List.map_append]
        exact hM2.other (grown_setCell _ _ _) hblk2 (by decide) (by decide)
      case measure => simp [intOf]; omega
    · obtain rfl : k = n := by omega
      have hts : ss.take k = ss := List.take_of_length_le (by rw [HL.out]; exact Nat.le_refl _)
      rw [hts] at hM ⊢
      clear hts hlt
      have htp := totalP_le ss
      rw [HL.out] at htp
      have hgl : (groupsB ss).length = k := by simp [groupsB, HL.out]
      have HGL := Lib.hid hgl; clear hgl
      by_cases hbig : 256 < totalP ss
      · have he : newErr ss = 12 := by unfold newErr; rw [if_pos hbig]
        have HE := Lib.hid he; clear he
        go_wp2
        go_ret2
        exact ⟨fun _ => by rw [HE.out]; rfl, fun h => by rw [HE.out] at h; omega, hb⟩
      · have hlet := refLetters_any w.heap.size (groupsB ss) wr ⟨_, _, hblk, hM⟩ (by unfold totalP at hbig htp; omega) (by rw [HGL.out]; unfold maxLen; omega)
        have hM' : RefAlph wr w.heap.size (groupsB ss) := ⟨_, _, hblk, hM⟩
        clear hM hblk
        have hfl : (groupsB ss).flatten.length = totalP ss := rfl
        have hfm : ∀ x ∈ (groupsB ss).flatten, x.size ≤ 3000 := by
          intro x hx
          obtain ⟨l, hl, hxl⟩ := List.mem_flatten.1 hx
          obtain ⟨s, hs, rfl⟩ := List.mem_map.1 hl
          exact Nat.le_trans (piecesB_size hxl) (Nat.le_trans (totalS_mem hs) ht)
        have HD : Hid (newErr ss = if (groupsB ss).flatten.all (fun x => letterB (bl x)) = false then 15 else if dupB (groupsB ss).flatten then 6 else 0) := by
          unfold newErr Hid; rw [if_neg hbig]
        generalize (groupsB ss).flatten = fl at hlet hfl hfm HD
        generalize hT : totalP ss = T at hbig hfl htp
        have HT := Lib.hid hT; have HFL := Lib.hid hfl; clear hT hfl
        go_wp2_with fail
        refine hlet.mono ?_
        rintro e w3 ⟨u, rfl, hu, hbu⟩
        obtain ⟨Au, cu, rfl, hcu1, hcu2⟩ := ownsRow_form hu
        rw [HFL.out] at hu hcu1
        have hRd : ReadS w3 w3.heap.size Au T fl := Reads.of_own hu
        have hb3 := hb.trans (hbu.mono hb.size)
        have hM3 := hM'.below hbu
        clear hu hlet hM' hb hbu hcu2
        rw [HFL.out]
        go_wp2_with fail
        have hT256 : T ≤ 256 := by omega
        clear hbig htp hcu1
        go_loop [9] (fun i => ∃ (j : Nat), j ≤ T ∧ i = .int .i64 j ∧ (fl.take j).all (fun x => letterB (bl x)) = true) (fun i => T - (intOf i).toNat)
        case atStart => exact ⟨0, by omega, rfl, by simp⟩
        case round =>
          obtain ⟨j, hj, rfl, hall⟩ := hrel
          have HA := Lib.hid hall; clear hall
          by_cases hjl : j < T
          · have hjf : j < fl.length := by rw [HFL.out]; exact hjl
            obtain ⟨ad, hA, _, hcj⟩ := hRd.at_ (k := j) hjf
            subst hA
            have hlc := refletter_any fl[j] w3 (by have := hfm fl[j] (List.getElem_mem _); unfold maxLen; omega)
            have htk : (fl.take (j + 1)).all (fun x => letterB (bl x)) = ((fl.take j).all (fun x => letterB (bl x)) && letterB (bl fl[j])) := by
              rw [List.take_succ_eq_append_getElem hjf, List.all_append]; simp
            have hbad : letterB (bl fl[j]) = false → fl.all (fun x => letterB (bl x)) = false := fun h => by
              rw [List.all_eq_false]; exact ⟨fl[j], List.getElem_mem _, by simp [h]⟩
            generalize letterB (bl fl[j]) = lb at hlc htk hbad
            have HTK := Lib.hid htk; have HB := Lib.hid hbad; clear htk hbad
            cases lb with
            | true =>
              go_wp2_with (go_at_call 72; refine hlc.mono ?_; rintro e w' ⟨rfl, rfl⟩)
              go_round
              case rel => exact ⟨j + 1, by omega, by go_num, by rw [HTK.out, HA.out]; rfl⟩
              case measure => simp [intOf]; omega
            | false =>
              have hE : newErr ss = 15 := by rw [HD.out, if_pos (HB.out rfl)]
              have HE := Lib.hid hE; clear hE
              go_wp2_with (go_at_call 72; refine hlc.mono ?_; rintro e w' ⟨rfl, rfl⟩)
              go_ret2
              exact ⟨fun _ => by rw [HE.out]; rfl, fun h => by rw [HE.out] at h; omega, hb3⟩
          · obtain rfl : T = j := by omega
            rw [List.take_of_length_le (by rw [HFL.out]; exact Nat.le_refl _)] at HA
            have HD2 : Hid (newErr ss = if dupB fl then 6 else 0) := by
              unfold Hid; rw [HD.out, if_neg (by rw [HA.out]; decide)]
            clear HD HA hjl
            go_wp2_with fail
            go_loopw [10] (fun i wr => ∃ (j q : Nat), j ≤ T ∧ i = .int .i64 j ∧ wr = w3.drewN q ∧ (fl.take j).Nodup) (fun i _ => T - (intOf i).toNat)
            case atStart => exact ⟨0, 0, by omega, rfl, rfl, by simp⟩
            case round =>
              obtain ⟨j1, q, hj1, rfl, rfl, hnd⟩ := hrel
              have HN := Lib.hid hnd; clear hnd
              by_cases hjl : j1 < T
              · have hjf : j1 < fl.length := by rw [HFL.out]; exact hjl
                obtain ⟨ad, hA, _, hcj⟩ := hRd.at_ (k := j1) hjf
                subst hA
                have hin : fl[j1] ∉ fl.take j1 → (fl.take (j1 + 1)).Nodup := fun h => by
                  rw [List.take_succ_eq_append_getElem hjf, List.nodup_append]
                  exact ⟨HN.out, by simp, fun a ha b hb e => by simp at hb; subst hb; subst e; exact h ha⟩
                have hout : fl[j1] ∈ fl.take j1 → dupB fl = true := fun h => by
                  unfold dupB
                  refine decide_eq_true fun hn => ?_
                  obtain ⟨i, hi, he⟩ := List.getElem_of_mem h
                  rw [List.getElem_take] at he
                  have hi' : i < j1 := by rw [List.length_take] at hi; omega
                  exact absurd he (List.pairwise_iff_getElem.1 hn i j1 (by omega) hjf hi')
                have hmem : ∀ (j2 : Nat) (h2 : j2 < fl.length), fl[j1] ∉ fl.take j2 → fl[j1] ≠ fl[j2] → fl[j1] ∉ fl.take (j2 + 1) := fun j2 h2 h e => by
                  rw [List.take_succ_eq_append_getElem h2, List.mem_append]
                  rintro (h' | h')
                  · exact h h'
                  · simp at h'; exact e h'
                have hmem2 : ∀ (j2 : Nat) (h2 : j2 < fl.length), j2 < j1 → fl[j1] = fl[j2] → fl[j1] ∈ fl.take j1 := fun j2 h2 hl e => by
                  rw [e]; exact List.mem_take_iff_getElem.2 ⟨j2, by omega, rfl⟩
                generalize hx : fl[j1] = x at hcj hin hout hmem hmem2
                have HX := Lib.hid hx; have HIN := Lib.hid hin; have HOUT := Lib.hid hout; have HM := Lib.hid hmem; have HM2 := Lib.hid hmem2
                clear hx hin hout hmem hmem2 HN
                go_wp2_with fail
                go_loopw [11] (fun i wr => ∃ (j2 q2 : Nat), j2 ≤ j1 ∧ i = .int .i64 j2 ∧ wr = w3.drewN q2 ∧ x ∉ fl.take j2) (fun i _ => j1 - (intOf i).toNat)
                case atStart => exact ⟨0, q, by omega, rfl, rfl, by simp⟩
                case round =>
                  obtain ⟨j2, q2, hj2, rfl, rfl, hnin⟩ := hrel
                  have HNI := Lib.hid hnin; clear hnin
                  by_cases hj2l : j2 < j1
                  · have hj2f : j2 < fl.length := by rw [HFL.out]; omega
                    obtain ⟨ad', hA', _, hcj2⟩ := hRd.at_ (k := j2) hj2f
                    injection hA' with hA'; subst hA'
                    by_cases hxe : x = fl[j2]
                    · have hbe : (x.toList == fl[j2].toList) = true := by rw [← hxe]; simp
                      have hE : newErr ss = 6 := by rw [HD2.out, if_pos (HOUT.out (HM2.out j2 hj2f hj2l hxe))]
                      have HE := Lib.hid hE; clear hE
                      generalize fl[j2] = y at hcj2 hbe
                      clear hxe
                      go_wp2_with fail
                      go_quiet (fail)
                      go_wp2
                      go_ret2
                      exact ⟨fun _ => by rw [HE.out]; rfl, fun h => by rw [HE.out] at h; omega, ⟨hb3.os, hb3.tape, hb3.output, hb3.size, hb3.block⟩⟩
                    · have hbe : (x.toList == fl[j2].toList) = false := by
                        rw [beq_eq_false_iff_ne]; intro h; exact hxe (ByteArray.ext (by rw [← Array.toList_inj, ← ByteArray.toList_eq, ← ByteArray.toList_eq]; exact h))
                      have hnn := HM.out j2 hj2f HNI.out hxe
                      have HNN := Lib.hid hnn; clear hnn
                      generalize fl[j2] = y at hcj2 hbe
                      clear hxe
                      go_wp2_with fail
                      go_quiet (fail)
                      go_wp2
                      go_roundw
                      case rel => exact ⟨j2 + 1, _, by omega, by go_num, rfl, HNN.out⟩
                      case measure => simp [intOf]; omega
                  · obtain rfl : j2 = j1 := by omega
                    go_wp2
                    go_roundw
                    case rel => exact ⟨j2 + 1, q2, by omega, by go_num, rfl, HIN.out HNI.out⟩
                    case measure => simp [intOf]; omega
              · obtain rfl : T = j1 := by omega
                rw [List.take_of_length_le (by rw [HFL.out]; exact Nat.le_refl _)] at HN
                have hE : newErr ss = 0 := by rw [HD2.out, if_neg]; unfold dupB; simp; exact HN.out
                have HE := Lib.hid hE; clear hE HD2 HN
                go_wp2
                go_ret2
                exact ⟨fun h => absurd HE.out h, fun _ => ⟨w.heap.size, rfl, hM3⟩, ⟨hb3.os, hb3.tape, hb3.output, hb3.size, hb3.block⟩⟩
end Go.Proofs.YtcdpadggjkobjaaDoor
