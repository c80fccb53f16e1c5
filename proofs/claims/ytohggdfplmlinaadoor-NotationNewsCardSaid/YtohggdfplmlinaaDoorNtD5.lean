/-
  layer 4: the reference's text of a mark; Feats, Sounds, Copy of the reference's inventory. Conditions: an inventory in memory.
-/
import Derived.Test.YtohggdfplmlinaaDoorNtD3
namespace Go.Proofs.YtohggdfplmlinaaDoor
open Go.RowKit Go.Lib

theorem signC_nat (c : UInt8) : signC c = decide (c.toNat = 58 ∨ c.toNat = 39 ∨ c.toNat = 34 ∨ c.toNat = 126 ∨ c.toNat = 94 ∨ c.toNat = 95 ∨ c.toNat = 61 ∨ c.toNat = 96) := by
  rw [Bool.eq_iff_iff]
  simp [signC, ← UInt8.toNat_inj]
set_option linter.unusedSimpArgs false in
set_option maxRecDepth 20000 in
theorem sign_any (c : UInt8) (w : World) : Calls Tryd.prog 89 #[.int .u8 c.toNat] w fun e w' => e = .returned (.bool (signC c)) ∧ w = w' := by
  have hc := c.toNat_lt
  obtain ⟨r, hr⟩ : ∃ r, signC c = r := ⟨_, rfl⟩
  rw [hr]
  rw [signC_nat] at hr
  generalize c.toNat = n at *
  have HR := Lib.hid hr
  clear hr
  go_enter Tryd.func89, Tryd.ntmps89
  go_wp2
  all_goals
    go_ret
    refine ⟨?_, rfl⟩
    rw [← HR.out]
    simp
    try (first | omega | (rw [Bool.eq_iff_iff]; simp only [Bool.or_eq_true, Bool.and_eq_true, decide_eq_true_eq, beq_iff_eq]; omega))
set_option maxRecDepth 20000 in
set_option maxHeartbeats 2000000 in
theorem markText_any (s : ByteArray) (w : World) (hs : s.size ≤ maxLen) : Calls Tryd.prog 72 #[.string s] w fun e w' => e = .returned (.bool (okMark s)) ∧ w = w' := by
  unfold maxLen at hs
  have hl := size_bs s
  obtain ⟨r, hr⟩ : ∃ r, okMark s = r := ⟨_, rfl⟩
  rw [hr]
  unfold okMark consC at hr
  have HR := Lib.hid hr
  clear hr
  go_enter Tryd.func72, Tryd.ntmps72
  go_wp2
  go_loopw [3] (fun i wr => ∃ k : Nat, k ≤ s.size ∧ i = .int .i64 k ∧ ((bs s).take k).all signC = true ∧ w = wr) (fun i _ => s.size - (RowKit.intOf i).toNat)
  case atStart => exact ⟨0, by omega, rfl, rfl, rfl⟩
  case round =>
    obtain ⟨k, hk, rfl, hall, rfl⟩ := hrel
    have HALL := Lib.hid hall
    clear hall
    by_cases hlt : k < s.size
    · have hkI : (k : Int) < (s.size : Int) := by omega
      have hk0 : (0 : Int) ≤ (k : Int) := by omega
      have hkb : k < (bs s).length := by rw [hl]; exact hlt
      have hk256 : (s[k].toNat : Int) < 256 := by have := s[k].toNat_lt; omega
      have hnx := all_take_next signC (bs s) k hkb
      rw [HALL.out, Bool.true_and] at hnx
      have hc := sign_any s[k] w
      cases hcs : signC s[k] with
      | true =>
        rw [hcs] at hc
        have HC := Lib.hid hc
        have HNX := Lib.hid (hnx.trans hcs)
        clear hc hnx hcs
        go_wp2_with fail
        refine HC.out.mono ?_
        rintro e w1 ⟨rfl, rfl⟩
        go_wp2
        go_roundw
        case rel => exact ⟨k + 1, by omega, by go_num, HNX.out, trivial⟩
        case measure => simp [RowKit.intOf]; omega
      | false =>
        rw [hcs] at hc
        obtain rfl : r = false := by
          have h : (bs s).all signC = false := List.all_eq_false.2 ⟨s[k], List.getElem_mem hkb, by rw [hcs]; decide⟩
          rw [← HR.out, h, Bool.and_false]
        have HC := Lib.hid hc
        clear hc hnx hcs
        go_wp2_with fail
        refine HC.out.mono ?_
        rintro e w1 ⟨rfl, rfl⟩
        go_wp2
        go_ret
        exact ⟨rfl, rfl⟩
    · obtain rfl : k = s.size := by omega
      have hal : (bs s).all signC = true := by
        have := HALL.out
        rwa [List.take_of_length_le (by rw [hl]; exact Nat.le_refl _)] at this
      have hr := HR.out
      rw [hal, Bool.and_true] at hr
      by_cases h1 : 1 ≤ s.size
      · have h1I : (1 : Int) ≤ (s.size : Int) := by omega
        by_cases h3 : s.size ≤ 3
        · have h3I : (s.size : Int) ≤ 3 := by omega
          obtain rfl : r = true := by rw [← hr, decide_eq_true h1, decide_eq_true h3]; rfl
          clear hr h1 h3
          go_wp2
          go_ret
          exact ⟨rfl, rfl⟩
        · have h3I : ¬ (s.size : Int) ≤ 3 := by omega
          obtain rfl : r = false := by rw [← hr, decide_eq_true h1, decide_eq_false h3]; rfl
          clear hr h1 h3
          go_wp2
          go_ret
          exact ⟨rfl, rfl⟩
      · have h1I : ¬ (1 : Int) ≤ (s.size : Int) := by omega
        obtain rfl : r = false := by rw [← hr, decide_eq_false h1]; rfl
        clear hr h1
        go_wp2
        go_ret
        exact ⟨rfl, rfl⟩
section
variable {w : World} {S : Nat → Prop} {g : Nat} {fs : List ByteArray} {L : List Nam}
set_option maxRecDepth 20000 in
set_option maxHeartbeats 1000000 in
theorem rfeats_any (h : RInv w S g fs L) : Calls Tryd.prog 71 #[wptr g] w fun e w' => ∃ v, e = .returned v ∧ w'.ownsRow w.heap.size 9 1 v fs.length (fs.map Value.string) ∧ Below w.heap.size w w' := by
  obtain ⟨i2, hi2, hy0, hy1, hy2⟩ := info_parts (show (Tryd.prog.info? 9).map (fun i => (i.zero, i.size, i.bytes)) = some (some (.string ByteArray.empty), 1, 16) by kernel_rfl)
  have hmd := rmade_any h
  have h24 := h.ok.f24
  obtain ⟨A1, c1, v, ⟨h1, -⟩, ⟨h3, -⟩, -⟩ := h
  have hg1 := (h1.alloc (.cells #[] 9)).cell 1
  simp only [List.getElem?_toArray, List.getElem?_cons_zero, List.getElem?_cons_succ] at hg1
  have hown := own_empty0 w 9 1
  have hr := (Reads.of_own h3).alloc (Nat.le_refl _) (.cells #[] 9)
  have HMD := Lib.hid hmd; have HR := Lib.hid hr; have HOWN := Lib.hid hown
  clear hmd h1 h3 hr hown
  go_enter Tryd.func71, Tryd.ntmps71
  go_wp2_with fail
  refine HMD.out.mono ?_
  rintro e w1 ⟨rfl, rfl⟩
  go_wp2_with (at_builtin; refine wpList_append_any _ rfl _ _ _ rfl w.heap.size 9 i2 (.string ByteArray.empty) 1 16 Tryd.underlying22 hi2 hy0 hy1 hy2 rfl (by decide) _ _ _ rfl HOWN.out w.heap.size _ _ _ (fs.map Value.string) rfl HR.out (strC_one fs) (by unfold maxLen; omega) (by omega) (by simp) ?_; intro v' w1 hown' hgrow hx; have HB1 := Lib.hid (((Below.refl _ w).alloc (Nat.le_refl _) (.cells #[] 9)).grown hgrow (by simp) (fun g hg => (HOWN.out.lt g hg).1)); have HO := Lib.hid hown'; clear hgrow hx hown')
  go_ret
  exact ⟨_, rfl, by simpa using HO.out, HB1.out⟩
set_option maxRecDepth 20000 in
set_option maxHeartbeats 1000000 in
theorem rsounds_any (h : RInv w S g fs L) : Calls Tryd.prog 90 #[wptr g] w fun e w' => ∃ v, e = .returned v ∧ w'.ownsRow w.heap.size 41 3 v L.length (L.flatMap namC) ∧ Below w.heap.size w w' := by
  obtain ⟨i0, hi, hz0, hz1, hz2⟩ := info_parts (show (Tryd.prog.info? 41).map (fun i => (i.zero, i.size, i.bytes)) = some (some (.agg #[.string ByteArray.empty, .int .u32 0, .int .u32 0]), 3, 24) by kernel_rfl)
  have hmd := rmade_any h
  have h256 := h.ok.l256
  obtain ⟨A1, c1, v, ⟨h1, -⟩, -, ⟨h3, -⟩, -⟩ := h
  obtain ⟨A2, c2, rfl, -, -⟩ := ownsRow_form h3
  have hg1 := (h1.alloc (.cells #[] 41)).cell 2
  simp only [List.getElem?_toArray, List.getElem?_cons_zero, List.getElem?_cons_succ] at hg1
  have hown := own_empty0 w 41 3
  have hr := (Reads.of_own h3).alloc (Nat.le_refl _) (.cells #[] 41)
  have HMD := Lib.hid hmd; have HR := Lib.hid hr; have HOWN := Lib.hid hown
  clear hmd h1 h3 hr hown
  go_enter Tryd.func90, Tryd.ntmps90
  go_wp2_with fail
  refine HMD.out.mono ?_
  rintro e w1 ⟨rfl, rfl⟩
  go_wp2_with (at_builtin; refine wpList_append_any _ rfl _ _ _ rfl w.heap.size 41 i0 (.agg #[.string ByteArray.empty, .int .u32 0, .int .u32 0]) 3 24 Tryd.underlying23 hi hz0 hz1 hz2 rfl (by decide) _ _ _ rfl HOWN.out w.heap.size _ _ _ (L.flatMap namC) rfl HR.out (namC_one L) (by unfold maxLen; omega) (by omega) (by simp) ?_; intro v' w1 hown' hgrow hx; have HB1 := Lib.hid (((Below.refl _ w).alloc (Nat.le_refl _) (.cells #[] 41)).grown hgrow (by simp) (fun g hg => (HOWN.out.lt g hg).1)); have HO := Lib.hid hown'; clear hgrow hx hown')
  go_ret
  exact ⟨_, rfl, by simpa using HO.out, HB1.out⟩
set_option maxRecDepth 20000 in
set_option maxHeartbeats 1000000 in
theorem rcopy_any (h : RInv w S g fs L) : Calls Tryd.prog 74 #[wptr g] w fun e w' => ∃ g', e = .returned (wptr g') ∧ RInv w' (NewB w w') g' fs L ∧ Below w.heap.size w w' := by
  have hmd := rmade_any h
  have hf := rfeats_any h
  have hs := fun (w' : World) (hb : Below w.heap.size w w') => rsounds_any (h.below hb)
  have hok := h.ok
  have HMD := Lib.hid hmd; have HF := Lib.hid hf; have HS := Lib.hid hs; have HOK := Lib.hid hok
  clear hmd hf hs hok h
  go_enter Tryd.func74, Tryd.ntmps74
  go_wp2_with fail
  refine HMD.out.mono ?_
  rintro e w1 ⟨rfl, rfl⟩
  go_wp2_with fail
  refine HF.out.mono ?_
  rintro e w1 ⟨v1, rfl, ho1, hb1⟩
  obtain ⟨A1, c1, rfl, -, -⟩ := ownsRow_form ho1
  have hS := HS.out w1 hb1
  have HSS := Lib.hid hS; have HO1 := Lib.hid ho1; have HB1 := Lib.hid hb1
  clear hS ho1 hb1
  go_wp2_with fail
  refine HSS.out.mono ?_
  rintro e w2 ⟨v2, rfl, ho2, hb2⟩
  obtain ⟨A2, c2, rfl, -, -⟩ := ownsRow_form ho2
  have HO2 := Lib.hid ho2; have HB2 := Lib.hid hb2
  have hs1 := HB1.out.size
  have hs2 := hb2.size
  clear ho2 hb2
  go_wp2
  go_ret
  have ho1' := own_below HO1.out HB2.out
  refine ⟨_, rfl, ⟨A1, c1, .slice A2 L.length c2, ⟨Blk.new _ _ _, ⟨by omega, by rw [World.size_alloc]; omega⟩⟩, ⟨own_mono (ho1'.alloc _) (Nat.zero_le _), (fun b hb => by have := ho1'.lt b hb; refine ⟨by omega, ?_⟩; rw [World.size_alloc]; omega)⟩, ⟨own_mono (HO2.out.alloc _) (Nat.zero_le _), (fun b hb => by have := HO2.out.lt b hb; refine ⟨by omega, ?_⟩; rw [World.size_alloc]; omega)⟩, HOK.out⟩, (HB1.out.trans (HB2.out.mono hs1)).trans ((Below.refl _ w2).alloc (by omega) _)⟩
end
end Go.Proofs.YtohggdfplmlinaaDoor
