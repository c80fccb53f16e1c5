/-
  layer 36: the statements' works, out of what New hands back. Conditions: none beside that.
-/
import Derived.Test.YtdelkgfodeilkaaDoorPtB
import Derived.Test.YtdelkgfodeilkaaDoorPtL
import Derived.Test.YtdelkgfodeilkaaDoorPtC
namespace Go.Proofs.YtdelkgfodeilkaaDoor
open Go.RowKit Go.Lib

theorem reads_lit (w : World) (xs : List Int) (n : Nat) (hn : xs.length = n) : ReadI (w.alloc (.cells (xs.map (Value.int .i64)).toArray 3)) (w.heap.size + 1) (some ⟨w.heap.size, 0, none⟩) n xs := by
  have := reads_new w 3 (xs.map (Value.int .i64))
  rw [List.length_map, hn] at this
  exact this
set_option maxRecDepth 20000 in
set_option maxHeartbeats 4000000 in
theorem works_of (hnew : NewAny) (w : World) : Calls Tryd.prog 16 #[] w fun e w' => e = .returned (.bool true) ∧ Below w.heap.size w w' := by
  go_enter Tryd.func16, Tryd.ntmps16
  go_wp2_with fail
  refine (five_any w).mono ?_
  rintro e w1 ⟨q1, q2, rfl, h1, h2, hb1⟩
  have hn := hnew _ _ 5 5 4 4 names5 roads5 w1 h1 h2 (by decide)
  clear h1 h2
  go_wp2_with fail
  refine hn.mono ?_
  rintro e w2 ⟨_, hok, hb2⟩
  obtain ⟨g, rfl, hM⟩ := hok ok5
  have hG := good_new ok5
  have hbb := hb1.trans (hb2.mono hb1.size)
  have hO : MapO w2 (some ⟨g, 0, none⟩) (some M5) := ⟨g, rfl, hM⟩
  have hGO : GoodO (some M5) := fun M e => by injection e with e; exact e ▸ hG
  have hd := distP_any _ _ 0 2 w2 hO hGO
  rw [show distO (some M5) 0 2 = (7, true) from distS5] at hd
  have HO := Lib.hid hO; have HGO := Lib.hid hGO; have HBB := Lib.hid hbb
  clear hok hM hG hO hGO hbb hb1 hb2 hn
  go_wp2_with fail
  refine hd.mono ?_
  rintro e w3 ⟨rfl, hb3⟩
  have hO3 := HO.out.below hb3
  have hp := pathP_any _ _ 0 2 w3 hO3 HGO.out
  rw [show wayO (some M5) 0 2 = [0, 1, 2] from way5] at hp
  have HO3 := Lib.hid hO3; have HB3 := Lib.hid (HBB.out.trans (hb3.mono HBB.out.size))
  clear hO3 hb3 hd
  go_wp2_with fail
  refine hp.mono ?_
  rintro e w4 ⟨v4, rfl, ho4, hb4⟩
  obtain ⟨A4, c4, rfl, _, _⟩ := ownsRow_form ho4
  have hi4 := ints_any A4 (some ⟨w4.heap.size, 0, none⟩) 3 c4 3 3 [0, 1, 2] [0, 1, 2] (w4.alloc (.cells #[.int .i64 0, .int .i64 1, .int .i64 2] 3)) (by rw [World.size_alloc]; exact (Reads.of_own ho4).alloc (Nat.le_refl _) _ |>.more (Nat.le_succ _)) (by rw [World.size_alloc]; exact reads_lit w4 [0, 1, 2] 3 rfl) (by unfold maxLen; decide)
  rw [show decide ([(0 : Int), 1, 2] = [0, 1, 2]) = true from by decide] at hi4
  have HO4 := Lib.hid (HO3.out.below hb4); have HB4 := Lib.hid (HB3.out.trans (hb4.mono HB3.out.size))
  clear ho4 hb4 hp
  go_wp2_with fail
  refine hi4.mono ?_
  rintro e w5 ⟨rfl, hb5⟩
  have hal : Below w4.heap.size w4 w5 := ((Below.refl _ w4).alloc (Nat.le_refl _) _).trans (hb5.mono (by rw [World.size_alloc]; omega))
  have HO5 := Lib.hid (HO4.out.below hal); have HB5 := Lib.hid (HB4.out.trans (hal.mono HB4.out.size))
  clear hal hb5 hi4
  have hl := labelsP_any _ _ w5 HO5.out HGO.out
  rw [show labO (some M5) = [0, 0, 0, 0, 4] from labels5] at hl
  go_wp2_with fail
  refine hl.mono ?_
  rintro e w6 ⟨v6, rfl, ho6, hb6⟩
  obtain ⟨A6, c6, rfl, _, _⟩ := ownsRow_form ho6
  have hi6 := ints_any A6 (some ⟨w6.heap.size, 0, none⟩) 5 c6 5 5 [0, 0, 0, 0, 4] [0, 0, 0, 0, 4] (w6.alloc (.cells #[.int .i64 0, .int .i64 0, .int .i64 0, .int .i64 0, .int .i64 4] 3)) (by rw [World.size_alloc]; exact (Reads.of_own ho6).alloc (Nat.le_refl _) _ |>.more (Nat.le_succ _)) (by rw [World.size_alloc]; exact reads_lit w6 [0, 0, 0, 0, 4] 5 rfl) (by unfold maxLen; decide)
  rw [show decide ([(0 : Int), 0, 0, 0, 4] = [0, 0, 0, 0, 4]) = true from by decide] at hi6
  have HO6 := Lib.hid (HO5.out.below hb6); have HB6 := Lib.hid (HB5.out.trans (hb6.mono HB5.out.size))
  clear ho6 hb6 hl
  go_wp2_with fail
  refine hi6.mono ?_
  rintro e w7 ⟨rfl, hb7⟩
  have hal : Below w6.heap.size w6 w7 := ((Below.refl _ w6).alloc (Nat.le_refl _) _).trans (hb7.mono (by rw [World.size_alloc]; omega))
  have HO7 := Lib.hid (HO6.out.below hal); have HB7 := Lib.hid (HB6.out.trans (hal.mono HB6.out.size))
  clear hal hb7 hi6
  have hw := withinP_any _ _ 1 4 w7 HO7.out HGO.out
  rw [show withinO (some M5) 1 4 = [0, 1, 2, 3] from within5] at hw
  go_wp2_with fail
  refine hw.mono ?_
  rintro e w8 ⟨v8, rfl, ho8, hb8⟩
  obtain ⟨A8, c8, rfl, _, _⟩ := ownsRow_form ho8
  have hi8 := ints_any A8 (some ⟨w8.heap.size, 0, none⟩) 4 c8 4 4 [0, 1, 2, 3] [0, 1, 2, 3] (w8.alloc (.cells #[.int .i64 0, .int .i64 1, .int .i64 2, .int .i64 3] 3)) (by rw [World.size_alloc]; exact (Reads.of_own ho8).alloc (Nat.le_refl _) _ |>.more (Nat.le_succ _)) (by rw [World.size_alloc]; exact reads_lit w8 [0, 1, 2, 3] 4 rfl) (by unfold maxLen; decide)
  rw [show decide ([(0 : Int), 1, 2, 3] = [0, 1, 2, 3]) = true from by decide] at hi8
  have HB8 := Lib.hid (HB7.out.trans (hb8.mono HB7.out.size))
  clear ho8 hb8 hw
  go_wp2_with fail
  refine hi8.mono ?_
  rintro e w9 ⟨rfl, hb9⟩
  have hal : Below w8.heap.size w8 w9 := ((Below.refl _ w8).alloc (Nat.le_refl _) _).trans (hb9.mono (by rw [World.size_alloc]; omega))
  go_wp2
  go_ret
  exact ⟨rfl, HB8.out.trans (hal.mono HB8.out.size)⟩
end Go.Proofs.YtdelkgfodeilkaaDoor
