/-
  The reference's New of layer 39. Conditions: at most 1000 texts of at most 3,000 bytes in all.
-/
import Derived.Test.YtgkpoopiamicnaaGreatDoorZbab
import Derived.BigQuiet
import Derived.Deep.QuietTactic
import Derived.Lib.SplitLaws
import Derived.Shelf.GgClosure.StringsIndexFunc
namespace Go.Proofs.YtgkpoopiamicnaaGreatDoor
open Go.RowKit

def groupsB (ss : List ByteArray) : List (List ByteArray) := ss.map piecesB
def totalP (ss : List ByteArray) : Nat := (groupsB ss).flatten.length
def dupB (l : List ByteArray) : Bool := decide (¬ l.Nodup)
def newErr (ss : List ByteArray) : Int :=
  if 256 < totalP ss then 12
  else if (groupsB ss).flatten.all (fun x => letterB (bl x)) = false then 15
  else if dupB (groupsB ss).flatten then 6 else 0
/-- What the reference's New hands back. -/
def RefNewPost (w : World) (ss : List ByteArray) (e : Ending) (w' : World) : Prop :=
  (newErr ss ≠ 0 → e = .returned (.tuple #[.pointer none, .int .i64 (newErr ss)])) ∧
  (newErr ss = 0 → ∃ g, e = .returned (.tuple #[.pointer (some ⟨g, 0, none⟩), .int .i64 0]) ∧ RefAlph w' g (groupsB ss)) ∧ Below w.heap.size w w'

theorem totalP_succ (ss : List ByteArray) (k : Nat) (hk : k < ss.length) : totalP (ss.take (k + 1)) = totalP (ss.take k) + (piecesB ss[k]).length := by
  unfold totalP groupsB
  rw [List.take_succ_eq_append_getElem hk, List.map_append, List.flatten_append]; simp
theorem totalP_le (ss : List ByteArray) : totalP ss ≤ totalS ss + ss.length := by
  unfold totalP totalS groupsB
  induction ss with
  | nil => simp
  | cons a l ih =>
    have := piecesB_le a
    simp only [List.map_cons, List.flatten_cons, List.length_append, List.sum_cons, List.length_cons] at ih ⊢
    omega
theorem totalS_take (ss : List ByteArray) (k : Nat) : totalS (ss.take k) ≤ totalS ss := by
  unfold totalS
  conv => rhs; rw [← List.take_append_drop k ss, List.map_append, List.sum_append]
  omega
theorem totalS_mem {ss : List ByteArray} {s : ByteArray} (h : s ∈ ss) : s.size ≤ totalS ss := le_sum_of_mem' (List.mem_map_of_mem h)

set_option maxRecDepth 20000 in
set_option maxHeartbeats 4000000 in
theorem refNew_any (A : Option Addr) (n c : Nat) (ss : List ByteArray) (w : World) (hr : ReadS w w.heap.size A n ss) (hn : n ≤ 1000) (ht : totalS ss ≤ 3000) :
    Calls Tryz.prog 11 #[.slice A n c] w (RefNewPost w ss) := by
  obtain ⟨i0, hi, hz0, hz1, hz2⟩ := info_parts (show (Tryz.prog.info? 22).map (fun i => (i.zero, i.size, i.bytes)) = some (some (.slice none 0 0), 1, 24) by kernel_rfl)
  have HL := Lib.hid hr.len
  go_enter Tryz.func11, Tryz.ntmps11
  go_wp2
  have hb0 : Below w.heap.size w (w.alloc (.cells #[.bool true, .slice none 0 0] 108)) := (Below.refl _ _).alloc (Nat.le_refl _) _
  go_loopw [5, 6] (fun t i wr => ∃ (k : Nat) (v : Value), k ≤ n ∧ i = .int .i64 k ∧ t = .int .i64 (totalP (ss.take k)) ∧ Blk wr w.heap.size 108 #[.bool true, v] ∧ OwnM wr w.heap.size 22 9 v (strM (groupsB (ss.take k))) ∧ Below w.heap.size w wr) (fun _ i _ => n - (RowKit.intOf i).toNat)
  case atStart => exact ⟨0, .slice none 0 0, by omega, rfl, by simp [totalP, groupsB], Blk.new _ _ _, OwnM.nil_ _ _ _ _, hb0⟩
  case round =>
    obtain ⟨k, v, hk, rfl, rfl, hblk, hM, hb⟩ := hrel
    clear hb0
    by_cases hlt : k < n
    · have hks : k < ss.length := by rw [HL.out]; exact hlt
      obtain ⟨ad, rfl, had, hc0⟩ := hr.at_ (k := k) hks
      have hcr := (hb.cell (p := ad.add k) (by rw [block_of_add]; exact had)).trans hc0
      have hsz : ss[k].size ≤ 3000 := Nat.le_trans (totalS_mem (List.getElem_mem _)) ht
      have htp := totalP_le (ss.take k)
      have htl := totalS_take ss k
      rw [List.length_take, HL.out, Nat.min_eq_left hk] at htp
      have hT := totalP_succ ss k hks
      have hG : groupsB (ss.take (k + 1)) = groupsB (ss.take k) ++ [piecesB ss[k]] := by
        unfold groupsB; rw [List.take_succ_eq_append_getElem hks, List.map_append]; rfl
      have hpl := piecesB_le ss[k]
      have hpc := refpieces_any ss[k] wr (by omega)
      clear hc0
      generalize hx : ss[k] = x at hcr hsz hpl hpc hT hG
      have HT := Lib.hid hT; have HG := Lib.hid hG
      clear hx hT hG
      go_wp2_with fail
      refine hpc.mono ?_
      rintro e w1 ⟨u, rfl, hu, hbu⟩
      obtain ⟨Au, cu, rfl, hcu1, hcu2⟩ := ownsRow_form hu
      have hu' := own_mono hu hb.size
      have hb1 := hb.trans (hbu.mono hb.size)
      have hM1 := hM.below hbu
      have hblk1 := hblk.below hbu hblk.lt
      clear hM hblk hu hcr hpc hcu1
      obtain ⟨vs, hvs, hvl, hvk⟩ := id hM1
      have hgl : (groupsB (ss.take k)).length = k := by simp [groupsB, HL.out]; omega
      simp only [strM, List.length_map, hgl] at hvs
      obtain ⟨Av, cv, rfl, hcv1, hcv2⟩ := ownsRow_form hvs
      have hstr := hblk1.cell 1
      simp only [List.getElem?_toArray, List.getElem?_cons_succ, List.getElem?_cons_zero] at hstr
      clear hgl hvk hvl
      go_wp2_with (at_builtin; refine wpList_append_own _ rfl _ _ 69 rfl w.heap.size 22 i0 (.slice none 0 0) 1 24 Tryz.underlying69 hi hz0 hz1 hz2 rfl (by decide) _ _ _ rfl (hvs.alloc _) ⟨w1.heap.size, 0, none⟩ 1 1 [.slice Au (piecesB x).length cu] rfl rfl (cell_one_new _ _ _) (by simp [Value.oneCell']) (by unfold maxLen; omega) (by omega) (by have := hb1.size; simp; omega) ?_; intro v' w2 hown' hgrow _; obtain ⟨A2, c2, rfl, _, _⟩ := ownsRow_form hown'; have hblk2 := (hblk1.alloc _).grown hgrow (fun e => own_blk_ne hvs hblk1 (by decide) e.symm); have hst2 := hblk2.cell 1; simp only [List.getElem?_toArray, List.getElem?_cons_succ, List.getElem?_cons_zero] at hst2; have hfz2 := hblk2.frozen 1)
      have hb2 : Below w.heap.size w w2 := (hb1.alloc hb1.size _).grown hgrow (by have := hb1.size; simp; omega) (fun g hg => (hvs.lt g hg).1)
      have hM2 := (hM1.alloc (.cells #[.slice Au (piecesB x).length cu] 22)).push (u := .slice Au (piecesB x).length cu) (xs := (piecesB x).map Value.string) (by decide) (by rw [List.length_map]; exact hu'.alloc _) (hvs.alloc _) hgrow hown'
      clear hgrow hvs hown' hblk1 hM1 hb1 hu' hbu
      go_roundw
      case rel =>
        refine ⟨k + 1, _, by omega, by go_num, by rw [HT.out]; go_num, hblk2.set_ 1 _, ?_, hb2.setCell (p := ⟨w.heap.size, 1, none⟩) (Nat.le_refl _) _⟩
        rw [HG.out, strM, List.map_append]
        exact hM2.other (grown_setCell _ _ _) hblk2 (by decide) (by decide)
      case measure => simp [RowKit.intOf]; omega
    · obtain rfl : k = n := by omega
      have hts : ss.take k = ss := List.take_of_length_le (by rw [HL.out]; exact Nat.le_refl _)
      rw [hts] at hM ⊢
      clear hts hlt
      have htp := totalP_le ss
      rw [HL.out] at htp
      have hgl : (groupsB ss).length = k := by simp [groupsB, HL.out]
      have HGL := Lib.hid hgl; clear hgl
      by_cases hbig : 256 < totalP ss
      · have he : newErr ss = 12 := by unfold newErr; rw [if_pos hbig]
        have HE := Lib.hid he; clear he
        go_wp2
        go_ret2
        exact ⟨fun _ => by rw [HE.out]; rfl, fun h => by rw [HE.out] at h; omega, hb⟩
      · have hlet := refLetters_any w.heap.size (groupsB ss) wr ⟨_, _, hblk, hM⟩ (by unfold totalP at hbig htp; omega) (by rw [HGL.out]; unfold maxLen; omega)
        have hM' : RefAlph wr w.heap.size (groupsB ss) := ⟨_, _, hblk, hM⟩
        clear hM hblk
        have hfl : (groupsB ss).flatten.length = totalP ss := rfl
        have hfm : ∀ x ∈ (groupsB ss).flatten, x.size ≤ 3000 := by
          intro x hx
          obtain ⟨l, hl, hxl⟩ := List.mem_flatten.1 hx
          obtain ⟨s, hs, rfl⟩ := List.mem_map.1 hl
          exact Nat.le_trans (piecesB_size hxl) (Nat.le_trans (totalS_mem hs) ht)
        have HD : Hid (newErr ss = if (groupsB ss).flatten.all (fun x => letterB (bl x)) = false then 15 else if dupB (groupsB ss).flatten then 6 else 0) := by
          unfold newErr Hid; rw [if_neg hbig]
        generalize (groupsB ss).flatten = fl at hlet hfl hfm HD
        generalize hT : totalP ss = T at hbig hfl htp
        have HT := Lib.hid hT; have HFL := Lib.hid hfl; clear hT hfl
        go_wp2_with fail
        refine hlet.mono ?_
        rintro e w3 ⟨u, rfl, hu, hbu⟩
        obtain ⟨Au, cu, rfl, hcu1, hcu2⟩ := ownsRow_form hu
        rw [HFL.out] at hu hcu1
        have hRd : ReadS w3 w3.heap.size Au T fl := Reads.of_own hu
        have hb3 := hb.trans (hbu.mono hb.size)
        have hM3 := hM'.below hbu
        clear hu hlet hM' hb hbu hcu2
        rw [HFL.out]
        go_wp2_with fail
        have hT256 : T ≤ 256 := by omega
        clear hbig htp hcu1
        go_loop [9] (fun i => ∃ (j : Nat), j ≤ T ∧ i = .int .i64 j ∧ (fl.take j).all (fun x => letterB (bl x)) = true) (fun i => T - (RowKit.intOf i).toNat)
        case atStart => exact ⟨0, by omega, rfl, by simp⟩
        case round =>
          obtain ⟨j, hj, rfl, hall⟩ := hrel
          have HA := Lib.hid hall; clear hall
          by_cases hjl : j < T
          · have hjf : j < fl.length := by rw [HFL.out]; exact hjl
            obtain ⟨ad, hA, _, hcj⟩ := hRd.at_ (k := j) hjf
            subst hA
            have hlc := refletter_any fl[j] w3 (by have := hfm fl[j] (List.getElem_mem _); unfold maxLen; omega)
            have htk : (fl.take (j + 1)).all (fun x => letterB (bl x)) = ((fl.take j).all (fun x => letterB (bl x)) && letterB (bl fl[j])) := by
              rw [List.take_succ_eq_append_getElem hjf, List.all_append]; simp
            have hbad : letterB (bl fl[j]) = false → fl.all (fun x => letterB (bl x)) = false := fun h => by
              rw [List.all_eq_false]; exact ⟨fl[j], List.getElem_mem _, by simp [h]⟩
            generalize letterB (bl fl[j]) = lb at hlc htk hbad
            have HTK := Lib.hid htk; have HB := Lib.hid hbad; clear htk hbad
            cases lb with
            | true =>
              go_wp2_with (go_at_call 49; refine hlc.mono ?_; rintro e w' ⟨rfl, rfl⟩)
              go_round
              case rel => exact ⟨j + 1, by omega, by go_num, by rw [HTK.out, HA.out]; rfl⟩
              case measure => simp [RowKit.intOf]; omega
            | false =>
              have hE : newErr ss = 15 := by rw [HD.out, if_pos (HB.out rfl)]
              have HE := Lib.hid hE; clear hE
              go_wp2_with (go_at_call 49; refine hlc.mono ?_; rintro e w' ⟨rfl, rfl⟩)
              go_ret2
              exact ⟨fun _ => by rw [HE.out]; rfl, fun h => by rw [HE.out] at h; omega, hb3⟩
          · obtain rfl : T = j := by omega
            rw [List.take_of_length_le (by rw [HFL.out]; exact Nat.le_refl _)] at HA
            have HD2 : Hid (newErr ss = if dupB fl then 6 else 0) := by
              unfold Hid; rw [HD.out, if_neg (by rw [HA.out]; decide)]
            clear HD HA hjl
            go_wp2_with fail
            go_loopw [10] (fun i wr => ∃ (j q : Nat), j ≤ T ∧ i = .int .i64 j ∧ wr = w3.drewN q ∧ (fl.take j).Nodup) (fun i _ => T - (RowKit.intOf i).toNat)
            case atStart => exact ⟨0, 0, by omega, rfl, rfl, by simp⟩
            case round =>
              obtain ⟨j1, q, hj1, rfl, rfl, hnd⟩ := hrel
              have HN := Lib.hid hnd; clear hnd
              by_cases hjl : j1 < T
              · have hjf : j1 < fl.length := by rw [HFL.out]; exact hjl
                obtain ⟨ad, hA, _, hcj⟩ := hRd.at_ (k := j1) hjf
                subst hA
                have hin : fl[j1] ∉ fl.take j1 → (fl.take (j1 + 1)).Nodup := fun h => by
                  rw [List.take_succ_eq_append_getElem hjf, List.nodup_append]
                  exact ⟨HN.out, by simp, fun a ha b hb e => by simp at hb; subst hb; subst e; exact h ha⟩
                have hout : fl[j1] ∈ fl.take j1 → dupB fl = true := fun h => by
                  unfold dupB
                  refine decide_eq_true fun hn => ?_
                  obtain ⟨i, hi, he⟩ := List.getElem_of_mem h
                  rw [List.getElem_take] at he
                  have hi' : i < j1 := by rw [List.length_take] at hi; omega
                  exact absurd he (List.pairwise_iff_getElem.1 hn i j1 (by omega) hjf hi')
                have hmem : ∀ (j2 : Nat) (h2 : j2 < fl.length), fl[j1] ∉ fl.take j2 → fl[j1] ≠ fl[j2] → fl[j1] ∉ fl.take (j2 + 1) := fun j2 h2 h e => by
                  rw [List.take_succ_eq_append_getElem h2, List.mem_append]
                  rintro (h' | h')
                  · exact h h'
                  · simp at h'; exact e h'
                have hmem2 : ∀ (j2 : Nat) (h2 : j2 < fl.length), j2 < j1 → fl[j1] = fl[j2] → fl[j1] ∈ fl.take j1 := fun j2 h2 hl e => by
                  rw [e]; exact List.mem_take_iff_getElem.2 ⟨j2, by omega, rfl⟩
                generalize hx : fl[j1] = x at hcj hin hout hmem hmem2
                have HX := Lib.hid hx; have HIN := Lib.hid hin; have HOUT := Lib.hid hout; have HM := Lib.hid hmem; have HM2 := Lib.hid hmem2
                clear hx hin hout hmem hmem2 HN
                go_wp2_with fail
                go_loopw [11] (fun i wr => ∃ (j2 q2 : Nat), j2 ≤ j1 ∧ i = .int .i64 j2 ∧ wr = w3.drewN q2 ∧ x ∉ fl.take j2) (fun i _ => j1 - (RowKit.intOf i).toNat)
                case atStart => exact ⟨0, q, by omega, rfl, rfl, by simp⟩
                case round =>
                  obtain ⟨j2, q2, hj2, rfl, rfl, hnin⟩ := hrel
                  have HNI := Lib.hid hnin; clear hnin
                  by_cases hj2l : j2 < j1
                  · have hj2f : j2 < fl.length := by rw [HFL.out]; omega
                    obtain ⟨ad', hA', _, hcj2⟩ := hRd.at_ (k := j2) hj2f
                    injection hA' with hA'; subst hA'
                    by_cases hxe : x = fl[j2]
                    · have hbe : (x.toList == fl[j2].toList) = true := by rw [← hxe]; simp
                      have hE : newErr ss = 6 := by rw [HD2.out, if_pos (HOUT.out (HM2.out j2 hj2f hj2l hxe))]
                      have HE := Lib.hid hE; clear hE
                      generalize fl[j2] = y at hcj2 hbe
                      clear hxe
                      go_wp2_with fail
                      go_quiet (fail)
                      go_wp2
                      go_ret2
                      exact ⟨fun _ => by rw [HE.out]; rfl, fun h => by rw [HE.out] at h; omega, ⟨hb3.os, hb3.tape, hb3.output, hb3.size, hb3.block⟩⟩
                    · have hbe : (x.toList == fl[j2].toList) = false := by
                        rw [beq_eq_false_iff_ne]; intro h; exact hxe (ByteArray.ext (by rw [← Array.toList_inj, ← ByteArray.toList_eq, ← ByteArray.toList_eq]; exact h))
                      have hnn := HM.out j2 hj2f HNI.out hxe
                      have HNN := Lib.hid hnn; clear hnn
                      generalize fl[j2] = y at hcj2 hbe
                      clear hxe
                      go_wp2_with fail
                      go_quiet (fail)
                      go_wp2
                      go_roundw
                      case rel => exact ⟨j2 + 1, _, by omega, by go_num, rfl, HNN.out⟩
                      case measure => simp [RowKit.intOf]; omega
                  · obtain rfl : j2 = j1 := by omega
                    go_wp2
                    go_roundw
                    case rel => exact ⟨j2 + 1, q2, by omega, by go_num, rfl, HIN.out HNI.out⟩
                    case measure => simp [RowKit.intOf]; omega
              · obtain rfl : T = j1 := by omega
                rw [List.take_of_length_le (by rw [HFL.out]; exact Nat.le_refl _)] at HN
                have hE : newErr ss = 0 := by rw [HD2.out, if_neg]; unfold dupB; simp; exact HN.out
                have HE := Lib.hid hE; clear hE HD2 HN
                go_wp2
                go_ret2
                exact ⟨fun h => absurd HE.out h, fun _ => ⟨w.heap.size, rfl, hM3⟩, ⟨hb3.os, hb3.tape, hb3.output, hb3.size, hb3.block⟩⟩
end Go.Proofs.YtgkpoopiamicnaaGreatDoor
namespace Go.Proofs.YtgkpoopiamicnaaGreatDoor
open Go.RowKit

theorem lt_of_cell {w : World} {a : Addr} {v : Value} (h : w.cell? a = some v) : a.block < w.heap.size := by
  rcases Nat.lt_or_ge a.block w.heap.size with h' | h'
  · exact h'
  · rw [World.cell?, Array.getElem?_eq_none h'] at h; cases h

set_option maxRecDepth 20000 in
set_option maxHeartbeats 2000000 in
theorem reflongest_any (g : Nat) (gs : List (List ByteArray)) (s : ByteArray) (w : World) (h : RefAlph w g gs) (hgl : gs.length ≤ maxLen) (_hs : s.size ≤ maxLen) (hgi : ∀ l ∈ gs, l.length ≤ maxLen) (hgx : ∀ l ∈ gs, ∀ x ∈ l, x.size ≤ maxLen) :
    Calls Tryz.prog 168 #[.pointer (some ⟨g, 0, none⟩), .string s] w fun e w' => e = .returned (.tuple #[.string (longest gs s).1, .int .i64 (longest gs s).2]) ∧ w = w' := by
  obtain ⟨base, v, hg, hM⟩ := h
  unfold maxLen at hgl _hs
  obtain ⟨A, c, rfl, hc1, hc2⟩ := hM.form
  have hm := Lib.hid hM
  clear hM
  have hc := hg.cell 1
  simp only [List.getElem?_toArray, List.getElem?_cons_succ, List.getElem?_cons_zero] at hc
  clear hg
  have HL := Lib.hid (show (strM gs).length = gs.length by simp)
  rw [HL.out] at hc hc1
  go_enter Tryz.func168, Tryz.ntmps168
  go_wp2
  go_loop [6, 7, 8] (fun b p i => ∃ (k : Nat) (bs : ByteArray × Int), k ≤ gs.length ∧ i = .int .i64 k ∧ b = .string bs.1 ∧ p = .int .i64 bs.2 ∧ bs = (ents (gs.take k)).foldl (better39 s) (ByteArray.empty, -1)) (fun _ _ i => gs.length - (RowKit.intOf i).toNat)
  case atStart => exact ⟨0, (ByteArray.empty, -1), by omega, rfl, rfl, rfl, rfl⟩
  case round =>
    obtain ⟨k, bs, hk, rfl, rfl, rfl, hbs⟩ := hrel
    have HBS := Lib.hid hbs; clear hbs
    by_cases hlt : k < gs.length
    · obtain ⟨g', c', u, hv, hcu, hu⟩ := hm.out.at_ (k := k) (by simpa using hlt)
      obtain ⟨A', n', rfl, hn1, hn2⟩ := ownsRow_form hu
      have hR := Reads.of_own hu
      simp only [List.getElem_map, List.length_map] at hR hcu hn1
      rw [HL.out] at hv
      injection hv with hv1 hv2 hv3
      subst hv1 hv3
      have hgk := hgi gs[k] (List.getElem_mem _)
      have hgxk := hgx gs[k] (List.getElem_mem _)
      unfold maxLen at hgk
      have hes : ents (gs.take (k + 1)) = ents (gs.take k) ++ gs[k].map (·, k) := ents_take_succ hlt
      generalize gs[k] = l at hR hcu hn1 hgk hgxk hes
      have HES := Lib.hid hes
      have HR : Hid (ReadS w w.heap.size A' l.length l) := hR
      clear hes hR hu
      go_wp2_with fail
      go_loop [6, 7, 9] (fun b p i => ∃ (j : Nat) (b1 : ByteArray × Int), j ≤ l.length ∧ i = .int .i64 j ∧ b = .string b1.1 ∧ p = .int .i64 b1.2 ∧ b1 = ((l.take j).map (·, k)).foldl (better39 s) bs) (fun _ _ i => l.length - (RowKit.intOf i).toNat)
      case atStart => exact ⟨0, bs, by omega, rfl, rfl, rfl, rfl⟩
      case round =>
        obtain ⟨j, b1, hj, rfl, rfl, rfl, hb1⟩ := hrel
        have HB1 := Lib.hid hb1; clear hb1
        by_cases hjl : j < l.length
        · obtain ⟨ad, hA, _, hcj⟩ := HR.out.at_ (k := j) hjl
          subst hA
          have hstep : ((l.take (j + 1)).map (·, k)).foldl (better39 s) bs = better39 s (((l.take j).map (·, k)).foldl (better39 s) bs) (l[j], k) := by
            rw [List.take_succ_eq_append_getElem hjl, List.map_append, List.foldl_append]; rfl
          have hx := hgxk l[j] (List.getElem_mem _)
          unfold maxLen at hx
          rw [← HB1.out] at hstep
          generalize l[j] = x at hcj hstep hx
          have HS := Lib.hid hstep; clear hstep
          by_cases h1 : b1.1.size < x.size
          · by_cases h2 : x.size ≤ s.size
            · by_cases h3 : s.extract 0 x.size = x
              · have h3b : ((s.extract 0 x.size).toList == x.toList) = true := by rw [h3]; simp
                have hN : better39 s b1 (x, k) = (x, (k : Int)) := by unfold better39; rw [if_pos ⟨h1, (prefix_iff x s).2 ⟨h2, h3⟩⟩]
                have HN := Lib.hid hN; clear hN h3
                go_wp2
                go_round
                case rel => exact ⟨j + 1, (x, (k : Int)), by omega, by go_num, rfl, rfl, by rw [HS.out, HN.out]⟩
                case measure => simp [RowKit.intOf]; omega
              · have h3b : ((s.extract 0 x.size).toList == x.toList) = false := by
                  rw [beq_eq_false_iff_ne]; intro h; exact h3 (bl_inj (by rw [bl, bl, ← ByteArray.toList_eq, ← ByteArray.toList_eq]; exact h))
                have hN : better39 s b1 (x, k) = b1 := by unfold better39; rw [if_neg (fun h => h3 ((prefix_iff x s).1 h.2).2)]
                have HN := Lib.hid hN; clear hN h3
                go_wp2
                go_round
                case rel => exact ⟨j + 1, b1, by omega, by go_num, rfl, rfl, by rw [HS.out, HN.out]⟩
                case measure => simp [RowKit.intOf]; omega
            · have hN : better39 s b1 (x, k) = b1 := by unfold better39; rw [if_neg (fun h => h2 ((prefix_iff x s).1 h.2).1)]
              have HN := Lib.hid hN; clear hN
              go_wp2
              go_round
              case rel => exact ⟨j + 1, b1, by omega, by go_num, rfl, rfl, by rw [HS.out, HN.out]⟩
              case measure => simp [RowKit.intOf]; omega
          · have hN : better39 s b1 (x, k) = b1 := by unfold better39; rw [if_neg (fun h => h1 h.1)]
            have HN := Lib.hid hN; clear hN
            go_wp2
            go_round
            case rel => exact ⟨j + 1, b1, by omega, by go_num, rfl, rfl, by rw [HS.out, HN.out]⟩
            case measure => simp [RowKit.intOf]; omega
        · obtain rfl : j = l.length := by omega
          rw [List.take_length] at HB1
          go_wp2
          go_round
          case rel => exact ⟨k + 1, b1, by omega, by go_num, rfl, rfl, by rw [HES.out, List.foldl_append, ← HBS.out]; exact HB1.out⟩
          case measure => simp [RowKit.intOf]; omega
    · obtain rfl : k = gs.length := by omega
      rw [List.take_length] at HBS
      go_wp2
      go_ret2
      have : longest gs s = bs := HBS.out.symm
      rw [this]; exact ⟨rfl, rfl⟩

/-- An alphabet of a size that the statements speak of. -/
def SmallG (gs : List (List ByteArray)) : Prop := gs.length ≤ 20000 ∧ (∀ l ∈ gs, l.length ≤ 20000) ∧ ∀ l ∈ gs, ∀ x ∈ l, x.size ≤ 20000
theorem info_int : (Tryz.prog.info? 3).map (fun i => (i.zero, i.size, i.bytes)) = some (some (.int .i64 0), 1, 8) := by kernel_rfl
abbrev strs (l : List ByteArray) : List Value := l.map Value.string
abbrev ints (l : List Int) : List Value := l.map (Value.int .i64)
def ReadPost39 (w : World) (r : Int × List (ByteArray × Int)) (e : Ending) (w' : World) : Prop :=
  ∃ v1 v2, e = .returned (.tuple #[v1, v2, .int .i64 r.1]) ∧ w'.ownsRow w.heap.size 9 1 v1 r.2.length (strs (letS r.2)) ∧ w'.ownsRow w.heap.size 3 1 v2 r.2.length (ints (keyS r.2)) ∧ Below w.heap.size w w'

set_option maxRecDepth 20000 in
set_option maxHeartbeats 2000000 in
theorem refread_any (g : Nat) (gs : List (List ByteArray)) (s : ByteArray) (w : World) (h : RefAlph w g gs) (hG : SmallG gs) (hs : s.size ≤ maxLen) :
    Calls Tryz.prog 118 #[.pointer (some ⟨g, 0, none⟩), .string s] w (ReadPost39 w (readRes gs s)) := by
  obtain ⟨i0, hi, hz0, hz1, hz2⟩ := info_parts info_string
  obtain ⟨j0, hj, hy0, hy1, hy2⟩ := info_parts info_int
  have hmade := refmade_any g gs w h
  have hs' := hs
  unfold maxLen at hs
  by_cases hbig : 65536 < s.size
  · have hR : readRes gs s = (11, []) := by unfold readRes; rw [if_pos hbig]
    have HR := Lib.hid hR; clear hR
    go_enter Tryz.func118, Tryz.ntmps118
    go_wp2_with (go_at_call 101; refine hmade.mono ?_; rintro e w' ⟨rfl, rfl⟩)
    go_ret3
    rw [HR.out]
    exact ⟨_, _, rfl, World.ownsRow_nil _ _ _ _, World.ownsRow_nil _ _ _ _, Below.refl _ _⟩
  · have hR : readRes gs s = match parse gs s with | none => (10, []) | some es => (0, es) := by unfold readRes; rw [if_neg hbig]; cases parse gs s <;> rfl
    have HR := Lib.hid hR; clear hR
    go_enter Tryz.func118, Tryz.ntmps118
    go_wp2_with (go_at_call 101; refine hmade.mono ?_; rintro e w' ⟨rfl, rfl⟩)
    clear hmade
    go_loopw [7, 8, 9] (fun l q i wr => ∃ (k : Nat) (done : List (ByteArray × Int)), k ≤ s.size ∧ i = .int .i64 k ∧ done.length ≤ k ∧ wr.ownsRow w.heap.size 9 1 l done.length (strs (letS done)) ∧ wr.ownsRow w.heap.size 3 1 q done.length (ints (keyS done)) ∧
      parse gs s = (parse gs (dropB s k)).map (done ++ ·) ∧ Below w.heap.size w wr) (fun _ _ i _ => s.size - (RowKit.intOf i).toNat)
    case atStart => exact ⟨0, [], by omega, rfl, by simp, World.ownsRow_nil _ _ _ _, World.ownsRow_nil _ _ _ _, by rw [dropB_zero]; simp, Below.refl _ _⟩
    case round =>
      obtain ⟨k, done, hk, rfl, hdk, ho1, ho2, hp, hb⟩ := hrel
      have HP := Lib.hid hp; clear hp
      by_cases hlt : k < s.size
      · have hlc := reflongest_any g gs (dropB s k) wr (h.below hb) (by have := hG.1; unfold maxLen; omega) (by rw [dropB_size]; unfold maxLen; omega) (fun l hl => by have := hG.2.1 l hl; unfold maxLen; omega) (fun l hl x hx => by have := hG.2.2 l hl x hx; unfold maxLen; omega)
        have hds : (dropB s k).size = s.size - k := dropB_size s k
        have hcons := parse_cons gs (s := dropB s k) (by omega)
        have hnone := parse_none gs (s := dropB s k) (by omega)
        have hpos := longest_pos (gs := gs) (s := dropB s k)
        rw [dropB_dropB] at hcons
        rw [hds] at hpos
        generalize longest gs (dropB s k) = b at hlc hcons hnone hpos
        have HC := Lib.hid hcons; have HN := Lib.hid hnone
        clear hcons hnone hds
        unfold dropB at hlc
        obtain ⟨x, pl⟩ := b
        simp only at hlc hpos
        by_cases hneg : pl < 0
        · have hE : readRes gs s = (10, []) := by rw [HR.out, HP.out, HN.out hneg]; rfl
          have HE := Lib.hid hE; clear hE hpos
          go_wp2_with (go_at_call 168; refine hlc.mono ?_; rintro e w' ⟨rfl, rfl⟩)
          go_ret3
          rw [HE.out]
          exact ⟨_, _, rfl, World.ownsRow_nil _ _ _ _, World.ownsRow_nil _ _ _ _, hb⟩
        · obtain ⟨hp1, hp2⟩ := hpos hneg
          have hstep : parse gs s = (parse gs (dropB s (k + x.size))).map ((done ++ [(x, pl)]) ++ ·) := by
            rw [HP.out, HC.out hneg, Option.map_map]; congr 1; funext l; simp
          have HS := Lib.hid hstep; clear hstep hpos
          have hM : done.length + 1 ≤ 65537 := by omega
          go_wp2_with (first
            | (go_at_call 168; refine hlc.mono ?_; rintro e w' ⟨rfl, rfl⟩)
            | (at_builtin; refine wpList_append_own _ rfl (.tmp 32) (.tmp 34) 22 rfl w.heap.size 9 i0 (.string ByteArray.empty) 1 16 Tryz.underlying22 hi hz0 hz1 hz2 rfl (by decide) _ _ _ rfl (ho1.alloc _) ⟨wr.heap.size, 0, none⟩ 1 1 [.string x] rfl rfl (cell_one_new _ _ _) (by simp [Value.oneCell']) (by unfold maxLen; omega) (by omega) (by have := hb.size; simp; omega) ?_; intro v1 w1 ho1' hg1 _; have ho2' := (ho2.alloc (.cells #[.string x] 9)).kept hg1 (own_own_ne ho2 ho1 (by decide)); have hb1 := (hb.alloc hb.size _).grown hg1 (by have := hb.size; simp; omega) (fun g hg => (ho1.lt g hg).1))
            | (at_builtin; refine wpList_append_own _ rfl (.tmp 36) (.tmp 38) 110 rfl w.heap.size 3 j0 (.int .i64 0) 1 8 Tryz.underlying110 hj hy0 hy1 hy2 rfl (by decide) _ _ _ rfl (ho2'.alloc _) ⟨w1.heap.size, 0, none⟩ 1 1 [.int .i64 pl] rfl rfl (cell_one_new _ _ _) (by simp [Value.oneCell']) (by unfold maxLen; omega) (by omega) (by have := hb1.size; simp; omega) ?_; intro v2 w2 ho2'' hg2 _))
          have ho1'' := (ho1'.alloc (.cells #[.int .i64 pl] 3)).kept hg2 (own_own_ne ho1' ho2' (by decide))
          have hb2 := (hb1.alloc hb1.size (.cells #[.int .i64 pl] 3)).grown hg2 (by have := hb1.size; simp; omega) (fun g hg => (ho2'.lt g hg).1)
          clear hg1 hg2 ho2' ho1' ho1 ho2
          go_roundw
          case rel => exact ⟨k + x.size, done ++ [(x, pl)], by omega, by go_num, by rw [List.length_append, List.length_singleton]; omega, by simpa [letS] using ho1'', by simpa [keyS] using ho2'', HS.out, hb2⟩
          case measure => simp [RowKit.intOf]; omega
      · obtain rfl : k = s.size := by omega
        have hE : readRes gs s = (0, done) := by
          rw [HR.out, HP.out, parse_nil gs (by rw [dropB_size]; omega)]; simp
        have HE := Lib.hid hE; clear hE
        go_wp2
        go_ret3
        rw [HE.out]
        exact ⟨_, _, rfl, ho1, ho2, hb⟩
end Go.Proofs.YtgkpoopiamicnaaGreatDoor
namespace Go.Proofs.YtgkpoopiamicnaaGreatDoor
open Go.RowKit

def spaceB : ByteArray := ⟨#[32]⟩
theorem split_space : ∀ (k : Nat) (l : Bs), l.count 32 = k → Lib.splitK [32] 0 k l = piecesL l := by
  intro k
  induction k with
  | zero =>
    intro l h
    rw [Lib.splitK, piecesL_none]
    intro c hc e; subst e
    have := List.count_pos_iff.2 hc; omega
  | succ k ih =>
    intro l h
    have hm : (32 : UInt8) ∈ l := List.count_pos_iff.1 (by omega)
    have hi : Lib.index l [32] = Lib.indexByte l 32 := Lib.index_one l 32
    have hne : Lib.indexByte l 32 ≠ -1 := fun e => by
      obtain ⟨j, hj, hv⟩ := List.getElem_of_mem hm
      exact Lib.indexByte_none e j (by rw [List.getElem?_eq_getElem hj, hv])
    have hge := Lib.indexByte_ge l 32
    obtain ⟨o, ho⟩ : ∃ o : Nat, Lib.indexByte l 32 = o := ⟨(Lib.indexByte l 32).toNat, by omega⟩
    obtain ⟨h1, h2⟩ := Lib.indexByte_some ho
    have hol : o < l.length := (List.getElem?_eq_some_iff.1 h1).1
    have hlo : l[o] = 32 := (List.getElem?_eq_some_iff.1 h1).2
    have hs : l = l.take o ++ 32 :: l.drop (o + 1) := by
      conv => lhs; rw [← List.take_append_drop o l, List.drop_eq_getElem_cons hol, hlo]
    have hn : ∀ c ∈ l.take o, c ≠ 32 := by
      intro c hc e; subst e
      obtain ⟨j, hj, hv⟩ := List.getElem_of_mem hc
      rw [List.getElem_take] at hv
      have hj' : j < o := by rw [List.length_take] at hj; omega
      exact h2 j hj' (by rw [List.getElem?_eq_getElem (by omega), hv])
    rw [Lib.splitK, if_neg (by rw [hi]; simpa using hne), hi, ho]
    have hc : (l.drop (o + 1)).count 32 = k := by
      have : l.count 32 = (l.take o).count 32 + ((32 :: l.drop (o + 1)).count 32) := by
        conv => lhs; rw [hs]
        rw [List.count_append]
      rw [List.count_eq_zero.2 (fun hm => hn 32 hm rfl), List.count_cons_self] at this
      omega
    have hp : piecesL l = l.take o :: piecesL (l.drop (o + 1)) := by
      conv => lhs; rw [hs]
      exact piecesL_cut hn
    rw [hp]
    simp only [Int.toNat_natCast, Nat.add_zero, List.length_singleton]
    rw [ih _ hc]
theorem splitB_space (s : ByteArray) : Lib.splitB spaceB 0 (Lib.countB s spaceB) s = piecesB s := by
  have h : (Lib.splitB spaceB 0 (Lib.countB s spaceB) s).map bl = piecesL (bl s) := by
    have := Lib.splitB_data spaceB 0 (Lib.countB s spaceB) s
    rw [show spaceB.data.toList = [32] from rfl] at this
    rw [show (fun x : ByteArray => x.data.toList) = bl from rfl] at this
    rw [this]
    exact split_space _ _ (Lib.count_one 32 _).symm
  unfold piecesB
  rw [← h, List.map_map, show mkB ∘ bl = id from funext mkB_bl, List.map_id]
theorem countB_space (s : ByteArray) : Lib.countB s spaceB + 1 = (piecesB s).length := by
  rw [piecesB_length]; exact congrArg (· + 1) (Lib.count_one 32 _)

theorem get!_eq (s : ByteArray) (i : Nat) (h : i < s.size) : s.get! i = s[i] := by
  show s.data.get!Internal i = _
  rw [Array.get!Internal_eq_getElem!, getElem!_pos s.data i h]; rfl

theorem decode_low (s : ByteArray) (i : Nat) (hi : i < s.size) (h : s[i].toNat < 128) : Utf8.decode s i = (s[i].toNat, 1) := by
  have h0 : (s.get! (i + 0)).toNat = s[i].toNat := by rw [Nat.add_zero, get!_eq s i hi]
  unfold Utf8.decode
  simp only [h0, h, ↓reduceIte]
theorem decode_high (s : ByteArray) (i : Nat) (hi : i < s.size) (h : ¬ s[i].toNat < 128) :
    32 < (Utf8.decode s i).1 ∧ 1 ≤ (Utf8.decode s i).2 ∧ ∀ j, i ≤ j → j < i + (Utf8.decode s i).2 → ∃ hj : j < s.size, 128 ≤ s[j].toNat := by
  have h0 : (s.get! (i + 0)).toNat = s[i].toNat := by rw [Nat.add_zero, get!_eq s i hi]
  have one : ∀ j, i ≤ j → j < i + 1 → ∃ hj : j < s.size, 128 ≤ s[j].toNat := fun j h1 h2 => by
    obtain rfl : j = i := by omega
    exact ⟨hi, by omega⟩
  have ct : ∀ k, (decide (i + k < s.size) && (s.get! (i + k)).toNat / 64 == 2) = true → ∃ hj : i + k < s.size, 128 ≤ s[i + k].toNat := fun k hk => by
    simp only [Bool.and_eq_true, decide_eq_true_eq, beq_iff_eq] at hk
    refine ⟨hk.1, ?_⟩
    have := hk.2
    rw [get!_eq s _ hk.1] at this; omega
  unfold Utf8.decode
  simp only [h0, h, ↓reduceIte]
  split
  · rename_i hc
    rw [Bool.and_eq_true] at hc
    have c1 := ct 1 hc.2
    split
    · rename_i hv
      refine ⟨by omega, by omega, fun j h1 h2 => ?_⟩
      rcases (show j = i ∨ j = i + 1 by omega) with rfl | rfl
      · exact ⟨hi, by omega⟩
      · exact c1
    · exact ⟨by unfold Utf8.runeError; omega, by omega, one⟩
  · split
    · rename_i hc
      simp only [Bool.and_eq_true] at hc
      have c1 := ct 1 (by simpa using hc.1.2)
      have c2 := ct 2 (by simpa using hc.2)
      split
      · rename_i hv
        rw [Bool.and_eq_true, decide_eq_true_eq] at hv
        refine ⟨by omega, by omega, fun j h1 h2 => ?_⟩
        rcases (show j = i ∨ j = i + 1 ∨ j = i + 2 by omega) with rfl | rfl | rfl
        · exact ⟨hi, by omega⟩
        · exact c1
        · exact c2
      · exact ⟨by unfold Utf8.runeError; omega, by omega, one⟩
    · split
      · rename_i hc
        simp only [Bool.and_eq_true] at hc
        have c1 := ct 1 (by simpa using hc.1.1.2)
        have c2 := ct 2 (by simpa using hc.1.2)
        have c3 := ct 3 (by simpa using hc.2)
        split
        · rename_i hv
          rw [Bool.and_eq_true, decide_eq_true_eq] at hv
          refine ⟨by omega, by omega, fun j h1 h2 => ?_⟩
          rcases (show j = i ∨ j = i + 1 ∨ j = i + 2 ∨ j = i + 3 by omega) with rfl | rfl | rfl | rfl
          · exact ⟨hi, by omega⟩
          · exact c1
          · exact c2
          · exact c3
        · exact ⟨by unfold Utf8.runeError; omega, by omega, one⟩
      · exact ⟨by unfold Utf8.runeError; omega, by omega, one⟩

def lowR (r : Nat) : Bool := decide (r ≤ 32)
theorem low_from (s : ByteArray) : ∀ (f pos : Nat), s.size ≤ pos + f → (0 ≤ Lib.idxFuncFrom lowR true s f pos ↔ ∃ j, ∃ hj : j < s.size, pos ≤ j ∧ s[j].toNat ≤ 32) := by
  intro f
  induction f with
  | zero =>
    intro pos h
    simp only [Lib.idxFuncFrom]
    exact ⟨fun h => by omega, fun ⟨j, hj, h1, _⟩ => by omega⟩
  | succ f ih =>
    intro pos h
    simp only [Lib.idxFuncFrom]
    by_cases hp : pos < s.size
    · rw [if_pos hp]
      by_cases hlow : s[pos].toNat < 128
      · rw [decode_low s pos hp hlow]
        by_cases h32 : s[pos].toNat ≤ 32
        · rw [if_pos (by simp [lowR, h32])]
          exact ⟨fun _ => ⟨pos, hp, Nat.le_refl _, h32⟩, fun _ => by omega⟩
        · rw [if_neg (by simp [lowR]; omega), ih (pos + 1) (by omega)]
          constructor
          · rintro ⟨j, hj, h1, h2⟩; exact ⟨j, hj, by omega, h2⟩
          · rintro ⟨j, hj, h1, h2⟩
            by_cases e : j = pos
            · subst e; exact absurd h2 h32
            · exact ⟨j, hj, by omega, h2⟩
      · obtain ⟨h1, h2, h3⟩ := decode_high s pos hp hlow
        rw [if_neg (by simp [lowR]; omega), ih (pos + (Utf8.decode s pos).2) (by omega)]
        constructor
        · rintro ⟨j, hj, h1, h2⟩; exact ⟨j, hj, by omega, h2⟩
        · rintro ⟨j, hj, hj1, hj2⟩
          refine ⟨j, hj, ?_, hj2⟩
          rcases Nat.lt_or_ge j (pos + (Utf8.decode s pos).2) with hlt | hge
          · obtain ⟨_, h4⟩ := h3 j hj1 hlt; omega
          · exact hge
    · rw [if_neg hp]
      exact ⟨fun h => by omega, fun ⟨j, hj, h1, _⟩ => by omega⟩
theorem low_iff (s : ByteArray) : decide (0 ≤ Lib.idxFunc lowR true s) = !((bl s).all (fun c => decide (32 < c.toNat))) := by
  unfold Lib.idxFunc
  rw [Bool.eq_iff_iff, decide_eq_true_eq, low_from s s.size 0 (by omega), Bool.not_eq_true', List.all_eq_false]
  constructor
  · rintro ⟨j, hj, _, h⟩; exact ⟨s[j], List.getElem_mem (by rw [bl_len]; exact hj), by simp; omega⟩
  · rintro ⟨c, hc, h⟩
    obtain ⟨j, hj, rfl⟩ := List.getElem_of_mem hc
    rw [bl_len] at hj
    exact ⟨j, hj, Nat.zero_le _, Nat.le_of_not_lt (fun hlt => h (decide_eq_true hlt))⟩
end Go.Proofs.YtgkpoopiamicnaaGreatDoor
