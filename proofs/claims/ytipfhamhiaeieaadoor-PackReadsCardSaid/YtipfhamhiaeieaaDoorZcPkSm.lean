/-
  layer 43: SamePat, two times the same pattern. Conditions: patterns that can be read. (Printed by samepat.py.)
-/
import Derived.Test.YtipfhamhiaeieaaDoorZcag
import Derived.Test.YtipfhamhiaeieaaDoorZcae
import Derived.Deep.RegionHeldLaw
namespace Go.Proofs.YtipfhamhiaeieaaDoor
open Go.RowKit Go.Lib

def SameOk (m : Nat) : Prop := ∀ (p : Pt) (cs1 cs2 : List Value) (w : World) (B : Nat), ptSize p ≤ m → PatC w B p cs1 → PatC w B p cs2 → B ≤ w.heap.size →
  Calls Tryd.prog 49 #[.agg cs1.toArray, .agg cs2.toArray] w fun e w' => e = .returned (.bool true) ∧ Below w.heap.size w w'
set_option linter.unusedSimpArgs false in
set_option maxRecDepth 20000 in
set_option maxHeartbeats 4000000 in
theorem same_step (m : Nat) (hm : SameOk m) : SameOk (m + 1) := by
  rintro ⟨k, s, neg, lo, hi, l⟩ cs1 cs2 w B hsz h1 h2 hB
  rw [patC_mk] at h1 h2
  obtain ⟨A1, c1, xs, rfl, h32, hl1, hc1, hr1, hp1⟩ := h1
  obtain ⟨A2, c2, ys, rfl, -, hl2, hc2, hr2, hp2⟩ := h2
  obtain ⟨a, b⟩ := s
  rw [ptSize_mk] at hsz
  have hst := ((Below.refl w.heap.size w).alloc (Nat.le_refl _) (.cells #[.int .i64 k, .int .u32 a, .int .u32 b, .bool neg, .int .i64 lo, .int .i64 hi, .slice A1 l.length c1] 27)).alloc (by simp) (.cells #[.int .i64 k, .int .u32 a, .int .u32 b, .bool neg, .int .i64 lo, .int .i64 hi, .slice A2 l.length c2] 27)
  have b1 := (Blk.new w 27 #[.int .i64 k, .int .u32 a, .int .u32 b, .bool neg, .int .i64 lo, .int .i64 hi, .slice A1 l.length c1]).alloc (.cells #[.int .i64 k, .int .u32 a, .int .u32 b, .bool neg, .int .i64 lo, .int .i64 hi, .slice A2 l.length c2] 27)
  have b2 := Blk.new (w.alloc (.cells #[.int .i64 k, .int .u32 a, .int .u32 b, .bool neg, .int .i64 lo, .int .i64 hi, .slice A1 l.length c1] 27)) 27 #[.int .i64 k, .int .u32 a, .int .u32 b, .bool neg, .int .i64 lo, .int .i64 hi, .slice A2 l.length c2]
  rw [World.size_alloc] at b2
  have hr1 := hr1.below (hst.mono hB)
  have hr2 := hr2.below (hst.mono hB)
  have hp1 := hp1.below (hst.mono hB)
  have hp2 := hp2.below (hst.mono hB)
  obtain ⟨Z0, hZ0⟩ : ∃ Z, (w.alloc (.cells #[.int .i64 k, .int .u32 a, .int .u32 b, .bool neg, .int .i64 lo, .int .i64 hi, .slice A1 l.length c1] 27)).alloc (.cells #[.int .i64 k, .int .u32 a, .int .u32 b, .bool neg, .int .i64 lo, .int .i64 hi, .slice A2 l.length c2] 27) = Z := ⟨_, rfl⟩
  have hsz0 : Z0.heap.size = w.heap.size + 1 + 1 := by rw [← hZ0]; simp
  rw [hZ0] at hst b1 b2 hr1 hr2 hp1 hp2
  have HZ0 := Lib.hid hZ0; have HST := Lib.hid hst; have HB1 := Lib.hid b1; have HB2 := Lib.hid b2; have HR1 := Lib.hid hr1; have HR2 := Lib.hid hr2; have HP1 := Lib.hid hp1; have HP2 := Lib.hid hp2; have HM := Lib.hid hm
  unfold maxLen at hc1 hc2
  clear hZ0 hst b1 b2 hr1 hr2 hp1 hp2 hm h32
  show Calls _ _ #[.agg #[.int .i64 k, .int .u32 a, .int .u32 b, .bool neg, .int .i64 lo, .int .i64 hi, .slice A1 l.length c1], .agg #[.int .i64 k, .int .u32 a, .int .u32 b, .bool neg, .int .i64 lo, .int .i64 hi, .slice A2 l.length c2]] _ _
  go_enter Tryd.func49, Tryd.ntmps49
  go_wp2
  rw [HZ0.out]
  clear HZ0
  go_loopw [5] (fun i wr => ∃ j : Nat, j ≤ l.length ∧ i = .int .i64 j ∧ Below Z0.heap.size Z0 wr) (fun i _ => l.length - (RowKit.intOf i).toNat)
  case atStart => exact ⟨0, Nat.zero_le _, rfl, Below.refl _ _⟩
  case round =>
    obtain ⟨j, hj, rfl, hb⟩ := hrel
    obtain ⟨c0, c1', c2', c3, c4, c5, c6⟩ := (HB1.out.below hb (by omega)).seven
    obtain ⟨d0, d1, d2, d3, d4, d5, d6⟩ := (HB2.out.below hb (by omega)).seven
    have HB := Lib.hid hb
    have hbs := hb.size
    clear hb
    by_cases hlt : j < l.length
    · have hjI : (j : Int) < (l.length : Int) := by omega
      obtain ⟨ad1, pk, ps, pneg, plo, phi, pA, pn, pc, rfl, had1, hpc1, e0, e1, e2, e3, e4, e5, e6⟩ := pat_cells (HR1.out.below (HB.out.mono (by omega))) (HP1.out.below (HB.out.mono (by omega))) rfl hlt
      obtain ⟨ad2, qk, qs, qneg, qlo, qhi, qA, qn, qc, rfl, had2, hpc2, f0, f1, f2, f3, f4, f5, f6⟩ := pat_cells (HR2.out.below (HB.out.mono (by omega))) (HP2.out.below (HB.out.mono (by omega))) rfl hlt
      have hcall := fun W (hW : Below wr.heap.size wr W) => HM.out l[j] _ _ W B (by have := ptSize_mem (List.getElem_mem hlt); omega) (hpc1.below (hW.mono (by omega))) (hpc2.below (hW.mono (by omega))) (by have := hW.size; omega)
      have HCALL := Lib.hid hcall
      have HCS : Hid (∀ W : World, Below wr.heap.size wr W → W.cell? ⟨w.heap.size, 6, none⟩ = some (.slice (some ad1) l.length c1) ∧ W.cell? ⟨w.heap.size + 1, 6, none⟩ = some (.slice (some ad2) l.length c2) ∧ (W.cell? (ad1.add (j * 7)) = some (.int .i64 pk) ∧ W.cell? ⟨(ad1.add (j * 7)).block, (ad1.add (j * 7)).off + 1, none⟩ = some (.int .u32 ps.1) ∧ W.cell? ⟨(ad1.add (j * 7)).block, (ad1.add (j * 7)).off + 2, none⟩ = some (.int .u32 ps.2) ∧ W.cell? ⟨(ad1.add (j * 7)).block, (ad1.add (j * 7)).off + 3, none⟩ = some (.bool pneg) ∧ W.cell? ⟨(ad1.add (j * 7)).block, (ad1.add (j * 7)).off + 4, none⟩ = some (.int .i64 plo) ∧ W.cell? ⟨(ad1.add (j * 7)).block, (ad1.add (j * 7)).off + 5, none⟩ = some (.int .i64 phi) ∧ W.cell? ⟨(ad1.add (j * 7)).block, (ad1.add (j * 7)).off + 6, none⟩ = some (.slice pA pn pc)) ∧ (W.cell? (ad2.add (j * 7)) = some (.int .i64 qk) ∧ W.cell? ⟨(ad2.add (j * 7)).block, (ad2.add (j * 7)).off + 1, none⟩ = some (.int .u32 qs.1) ∧ W.cell? ⟨(ad2.add (j * 7)).block, (ad2.add (j * 7)).off + 2, none⟩ = some (.int .u32 qs.2) ∧ W.cell? ⟨(ad2.add (j * 7)).block, (ad2.add (j * 7)).off + 3, none⟩ = some (.bool qneg) ∧ W.cell? ⟨(ad2.add (j * 7)).block, (ad2.add (j * 7)).off + 4, none⟩ = some (.int .i64 qlo) ∧ W.cell? ⟨(ad2.add (j * 7)).block, (ad2.add (j * 7)).off + 5, none⟩ = some (.int .i64 qhi) ∧ W.cell? ⟨(ad2.add (j * 7)).block, (ad2.add (j * 7)).off + 6, none⟩ = some (.slice qA qn qc))) := Lib.hid fun W hW => ⟨(hW.cell (p := ⟨w.heap.size, 6, none⟩) (by omega : w.heap.size < wr.heap.size)).trans c6, (hW.cell (p := ⟨w.heap.size + 1, 6, none⟩) (by omega : w.heap.size + 1 < wr.heap.size)).trans d6, ⟨(hW.cell (p := ad1.add (j * 7)) (by rw [block_of_add]; omega)).trans e0, (hW.cell (p := ⟨(ad1.add (j * 7)).block, (ad1.add (j * 7)).off + 1, none⟩) (by rw [block_of_add]; omega)).trans e1, (hW.cell (p := ⟨(ad1.add (j * 7)).block, (ad1.add (j * 7)).off + 2, none⟩) (by rw [block_of_add]; omega)).trans e2, (hW.cell (p := ⟨(ad1.add (j * 7)).block, (ad1.add (j * 7)).off + 3, none⟩) (by rw [block_of_add]; omega)).trans e3, (hW.cell (p := ⟨(ad1.add (j * 7)).block, (ad1.add (j * 7)).off + 4, none⟩) (by rw [block_of_add]; omega)).trans e4, (hW.cell (p := ⟨(ad1.add (j * 7)).block, (ad1.add (j * 7)).off + 5, none⟩) (by rw [block_of_add]; omega)).trans e5, (hW.cell (p := ⟨(ad1.add (j * 7)).block, (ad1.add (j * 7)).off + 6, none⟩) (by rw [block_of_add]; omega)).trans e6⟩, ⟨(hW.cell (p := ad2.add (j * 7)) (by rw [block_of_add]; omega)).trans f0, (hW.cell (p := ⟨(ad2.add (j * 7)).block, (ad2.add (j * 7)).off + 1, none⟩) (by rw [block_of_add]; omega)).trans f1, (hW.cell (p := ⟨(ad2.add (j * 7)).block, (ad2.add (j * 7)).off + 2, none⟩) (by rw [block_of_add]; omega)).trans f2, (hW.cell (p := ⟨(ad2.add (j * 7)).block, (ad2.add (j * 7)).off + 3, none⟩) (by rw [block_of_add]; omega)).trans f3, (hW.cell (p := ⟨(ad2.add (j * 7)).block, (ad2.add (j * 7)).off + 4, none⟩) (by rw [block_of_add]; omega)).trans f4, (hW.cell (p := ⟨(ad2.add (j * 7)).block, (ad2.add (j * 7)).off + 5, none⟩) (by rw [block_of_add]; omega)).trans f5, (hW.cell (p := ⟨(ad2.add (j * 7)).block, (ad2.add (j * 7)).off + 6, none⟩) (by rw [block_of_add]; omega)).trans f6⟩⟩
      clear hcall hpc1 hpc2
      go_wp2
      refine wp_region_held_drew (S := (fun W => W.cell? ⟨w.heap.size, 6, none⟩ = some (.slice (some ad1) l.length c1) ∧ W.cell? ⟨w.heap.size + 1, 6, none⟩ = some (.slice (some ad2) l.length c2) ∧ (W.cell? (ad1.add (j * 7)) = some (.int .i64 pk) ∧ W.cell? ⟨(ad1.add (j * 7)).block, (ad1.add (j * 7)).off + 1, none⟩ = some (.int .u32 ps.1) ∧ W.cell? ⟨(ad1.add (j * 7)).block, (ad1.add (j * 7)).off + 2, none⟩ = some (.int .u32 ps.2) ∧ W.cell? ⟨(ad1.add (j * 7)).block, (ad1.add (j * 7)).off + 3, none⟩ = some (.bool pneg) ∧ W.cell? ⟨(ad1.add (j * 7)).block, (ad1.add (j * 7)).off + 4, none⟩ = some (.int .i64 plo) ∧ W.cell? ⟨(ad1.add (j * 7)).block, (ad1.add (j * 7)).off + 5, none⟩ = some (.int .i64 phi) ∧ W.cell? ⟨(ad1.add (j * 7)).block, (ad1.add (j * 7)).off + 6, none⟩ = some (.slice pA pn pc)) ∧ (W.cell? (ad2.add (j * 7)) = some (.int .i64 qk) ∧ W.cell? ⟨(ad2.add (j * 7)).block, (ad2.add (j * 7)).off + 1, none⟩ = some (.int .u32 qs.1) ∧ W.cell? ⟨(ad2.add (j * 7)).block, (ad2.add (j * 7)).off + 2, none⟩ = some (.int .u32 qs.2) ∧ W.cell? ⟨(ad2.add (j * 7)).block, (ad2.add (j * 7)).off + 3, none⟩ = some (.bool qneg) ∧ W.cell? ⟨(ad2.add (j * 7)).block, (ad2.add (j * 7)).off + 4, none⟩ = some (.int .i64 qlo) ∧ W.cell? ⟨(ad2.add (j * 7)).block, (ad2.add (j * 7)).off + 5, none⟩ = some (.int .i64 qhi) ∧ W.cell? ⟨(ad2.add (j * 7)).block, (ad2.add (j * 7)).off + 6, none⟩ = some (.slice qA qn qc)))) (by kernel_rfl) ?_ (fun hHeld => ?_)
      · (try dsimp only)
        (first | exact HCS.out _ ((Below.refl _ _).drew) | exact HCS.out _ (Below.refl _ _) | exact HCS.out _ HB5.out)
      refine wpAnyH_take (i := 0) (v := ?_) rfl (by kernel_rfl) (by kernel_rfl) (by kernel_rfl) (fun _ _ _ h => h) (Or.inl ⟨by rfl, ?_⟩) (by assumption) ?_
      rotate_left
      · intro w hSw
        (try dsimp only at hSw)
        go_simp <;> with_reducible rfl
      try simp only [Act.put, List.getElem_toArray, List.getElem_cons_succ, List.getElem_cons_zero, List.setIfInBounds_toArray, List.set_cons_zero, List.set_cons_succ]
      refine wpAnyH_take (i := 1) (v := ?_) rfl (by kernel_rfl) (by kernel_rfl) (by kernel_rfl) (fun _ _ _ h => h) (Or.inl ⟨by rfl, ?_⟩) (by assumption) ?_
      rotate_left
      · intro w hSw
        (try dsimp only at hSw)
        go_simp <;> with_reducible rfl
      try simp only [Act.put, List.getElem_toArray, List.getElem_cons_succ, List.getElem_cons_zero, List.setIfInBounds_toArray, List.set_cons_zero, List.set_cons_succ]
      refine wpAnyH_take (i := 2) (v := ?_) rfl (by kernel_rfl) (by kernel_rfl) (by kernel_rfl) (fun _ _ _ h => h) (Or.inl ⟨by rfl, ?_⟩) (by assumption) ?_
      rotate_left
      · intro w hSw
        (try dsimp only at hSw)
        go_simp <;> with_reducible rfl
      try simp only [Act.put, List.getElem_toArray, List.getElem_cons_succ, List.getElem_cons_zero, List.setIfInBounds_toArray, List.set_cons_zero, List.set_cons_succ]
      refine wpAnyH_take (i := 3) (v := ?_) rfl (by kernel_rfl) (by kernel_rfl) (by kernel_rfl) (fun _ _ _ h => h) (Or.inl ⟨by rfl, ?_⟩) (by assumption) ?_
      rotate_left
      · intro w hSw
        (try dsimp only at hSw)
        go_simp <;> with_reducible rfl
      try simp only [Act.put, List.getElem_toArray, List.getElem_cons_succ, List.getElem_cons_zero, List.setIfInBounds_toArray, List.set_cons_zero, List.set_cons_succ]
      refine wpAnyH_take (i := 4) (v := ?_) rfl (by kernel_rfl) (by kernel_rfl) (by kernel_rfl) (fun _ _ _ h => h) (Or.inl ⟨by rfl, ?_⟩) (by assumption) ?_
      rotate_left
      · intro w hSw
        (try dsimp only at hSw)
        go_simp <;> with_reducible rfl
      try simp only [Act.put, List.getElem_toArray, List.getElem_cons_succ, List.getElem_cons_zero, List.setIfInBounds_toArray, List.set_cons_zero, List.set_cons_succ]
      refine wpAnyH_take (i := 5) (v := ?_) rfl (by kernel_rfl) (by kernel_rfl) (by kernel_rfl) (fun _ _ _ h => h) (Or.inl ⟨by rfl, ?_⟩) (by assumption) ?_
      rotate_left
      · intro w hSw
        (try dsimp only at hSw)
        go_simp <;> with_reducible rfl
      try simp only [Act.put, List.getElem_toArray, List.getElem_cons_succ, List.getElem_cons_zero, List.setIfInBounds_toArray, List.set_cons_zero, List.set_cons_succ]
      refine wpAnyH_take (i := 6) (v := ?_) rfl (by kernel_rfl) (by kernel_rfl) (by kernel_rfl) (fun _ _ _ h => h) (Or.inl ⟨by rfl, ?_⟩) (by assumption) ?_
      rotate_left
      · intro w hSw
        (try dsimp only at hSw)
        go_simp <;> with_reducible rfl
      try simp only [Act.put, List.getElem_toArray, List.getElem_cons_succ, List.getElem_cons_zero, List.setIfInBounds_toArray, List.set_cons_zero, List.set_cons_succ]
      refine wpAnyH_take (i := 7) (v := ?_) rfl (by kernel_rfl) (by kernel_rfl) (by kernel_rfl) (fun _ _ _ h => h) (Or.inl ⟨by rfl, ?_⟩) (by assumption) ?_
      rotate_left
      · intro w hSw
        (try dsimp only at hSw)
        go_simp <;> with_reducible rfl
      try simp only [Act.put, List.getElem_toArray, List.getElem_cons_succ, List.getElem_cons_zero, List.setIfInBounds_toArray, List.set_cons_zero, List.set_cons_succ]
      refine wpAnyH_take (i := 8) (v := ?_) rfl (by kernel_rfl) (by kernel_rfl) (by kernel_rfl) (fun _ _ _ h => h) (Or.inl ⟨by rfl, ?_⟩) (by assumption) ?_
      rotate_left
      · intro w hSw
        (try dsimp only at hSw)
        go_simp <;> with_reducible rfl
      try simp only [Act.put, List.getElem_toArray, List.getElem_cons_succ, List.getElem_cons_zero, List.setIfInBounds_toArray, List.set_cons_zero, List.set_cons_succ]
      refine wpAnyH_take (i := 9) (v := ?_) rfl (by kernel_rfl) (by kernel_rfl) (by kernel_rfl) (fun _ _ _ h => h) (Or.inl ⟨by rfl, ?_⟩) (by assumption) ?_
      rotate_left
      · intro w hSw
        (try dsimp only at hSw)
        go_simp <;> with_reducible rfl
      try simp only [Act.put, List.getElem_toArray, List.getElem_cons_succ, List.getElem_cons_zero, List.setIfInBounds_toArray, List.set_cons_zero, List.set_cons_succ]
      refine wpAnyH_ready (rs := [10]) (by kernel_rfl) (by simp) ?_
      refine AllReadyH.cons rfl (fun K hK => ?_) AllReadyH.nil
      go_simp
      (try go_wp2_with fail)
      refine (HCALL.out _ ((Below.refl _ _).drew)).mono ?_
      rintro e w5 ⟨rfl, hb5⟩
      have HB5 : Hid (Below wr.heap.size wr w5) := Lib.hid (((Below.refl _ wr).drew).trans hb5)
      clear hb5
      (try go_simp)
      refine hK.out _ _ ?_ (fun hHeld' => ?_)
      · (try dsimp only)
        (first | exact HCS.out _ ((Below.refl _ _).drew) | exact HCS.out _ (Below.refl _ _) | exact HCS.out _ HB5.out)
      clear hK K hHeld
      have hHeld := hHeld'
      clear hHeld'
      refine wpAnyH_take (i := 11) (v := ?_) rfl (by kernel_rfl) (by kernel_rfl) (by kernel_rfl) (fun _ _ _ h => h) (Or.inl ⟨by rfl, ?_⟩) (by assumption) ?_
      rotate_left
      · intro w hSw
        (try dsimp only at hSw)
        go_simp <;> with_reducible rfl
      try simp only [Act.put, List.getElem_toArray, List.getElem_cons_succ, List.getElem_cons_zero, List.setIfInBounds_toArray, List.set_cons_zero, List.set_cons_succ]
      refine wpAnyH_done (by kernel_rfl) ?_ _
      go_wp2
      go_roundw
      case rel => exact ⟨j + 1, by omega, by go_num, HB.out.trans (HB5.out.mono hbs)⟩
      case measure => simp [RowKit.intOf]; omega
    · obtain rfl : j = l.length := by omega
      go_wp2
      go_ret
      exact ⟨rfl, HST.out.trans (HB.out.mono (by omega))⟩
theorem same_any : ∀ m, SameOk m
  | 0 => fun p _ _ _ _ h => absurd (ptSize_pos p) (by omega)
  | m + 1 => same_step m (same_any m)
end Go.Proofs.YtipfhamhiaeieaaDoor

