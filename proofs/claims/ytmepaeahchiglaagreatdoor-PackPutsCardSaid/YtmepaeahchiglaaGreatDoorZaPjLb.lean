/-
  layer 43's gate: Reps of laws. Conditions: laws that can be read.
-/
import Derived.Test.YtmepaeahchiglaaGreatDoorZabd
namespace Go.Proofs.YtmepaeahchiglaaGreatDoor
open Go.RowKit Go.Lib

set_option linter.unusedSimpArgs false in
set_option linter.unusedVariables false in
set_option maxRecDepth 20000 in
set_option maxHeartbeats 8000000 in
theorem reps_any (A : Option Addr) (n c B : Nat) (laws : List Lw) (w : World) (h : SlC LawC 18 w B laws (.slice A n c)) (hB : B ≤ w.heap.size) :
    Calls Tryz.prog 80 #[.slice A n c] w fun e w' => ∃ r : Int, e = .returned (.int .i64 r) ∧ Below w.heap.size w w' := by
  obtain ⟨hn, hn1, hn2⟩ := h.len
  unfold maxLen at hn2
  have HS := Lib.hid h; have HN := Lib.hid hn
  clear h hn
  go_enter Tryz.func80, Tryz.ntmps80
  go_wp2
  go_loopw [3, 4] (fun t i wr => ∃ (k r : Nat), k ≤ n ∧ i = .int .i64 k ∧ t = .int .i64 r ∧ r ≤ 80 ∧ Below w.heap.size w wr) (fun _ i _ => n - (RowKit.intOf i).toNat)
  case atStart => exact ⟨0, 0, by omega, rfl, rfl, by omega, Below.refl _ _⟩
  case round =>
    obtain ⟨k, r, hk, rfl, rfl, hr, hbw⟩ := hrel
    have HBW := Lib.hid hbw
    obtain ⟨V, hV⟩ : ∃ W, W = wr := ⟨_, rfl⟩
    subst hV
    clear hbw
    by_cases hlt : k < n
    case neg =>
      obtain rfl : n = k := by omega
      go_wp2
      go_ret
      first | exact ⟨_, rfl, HBW.out⟩ | exact ⟨⟨_, rfl⟩, HBW.out⟩ | exact HBW.out
    have hkI : (k : Int) < (n : Int) := by omega
    have hk0 : (0 : Int) ≤ (k : Int) := by omega
    by_cases h300 : k ≤ 300
    case neg =>
      have h300I : ¬ (k : Int) ≤ 300 := by omega
      go_wp2
      go_ret
      first | exact ⟨_, rfl, HBW.out⟩ | exact ⟨⟨_, rfl⟩, HBW.out⟩ | exact HBW.out
    have h300I : (k : Int) ≤ 300 := by omega
    have hkl : k < laws.length := by have := HN.out; omega
    obtain ⟨ad, cs, rfl, had, hP, hcc⟩ := slC_cells (by intro x cs h; exact law_len h) HS.out hkl
    have hadb : ∀ m, (ad.add m).block < B := fun m => by rw [add_block_]; exact had
    obtain ⟨k1, s1, n1, lo1, hi1, A1, m1, c1, k2, s2, n2, lo2, hi2, A2, m2, c2, A3, c3, A4, c4, rfl, hp1, hp2, -⟩ := hP.form
    generalize laws[k].ifs.length = i3 at *
    generalize laws[k].outs.length = i4 at *
    generalize laws[k].name = nm at *
    generalize laws[k].mode = mode at *
    obtain ⟨p1, hp1e⟩ : ∃ p, laws[k].left = p := ⟨_, rfl⟩
    obtain ⟨p2, hp2e⟩ : ∃ p, laws[k].right = p := ⟨_, rfl⟩
    rw [hp1e] at hp1
    rw [hp2e] at hp2
    have hcell : ∀ (j : Nat) (u : Value), 0 < j → [.string nm, .int .i64 k1, .int .u32 s1.1, .int .u32 s1.2, .bool n1, .int .i64 lo1, .int .i64 hi1, .slice A1 m1 c1, .int .i64 k2, .int .u32 s2.1, .int .u32 s2.2, .bool n2, .int .i64 lo2, .int .i64 hi2, .slice A2 m2 c2, .slice A3 i3 c3, .slice A4 i4 c4, .int .i64 mode][j]? = some u → w.cell? ⟨(ad.add (k * 18)).block, (ad.add (k * 18)).off + j, none⟩ = some u := fun j u hj hu => by
      have h := hcc j u hu
      obtain ⟨j, rfl⟩ : ∃ i, j = i + 1 := ⟨j - 1, by omega⟩
      rw [add_next] at h
      exact h
    have hS : ∀ W : World, Below w.heap.size w W → W.cell? ⟨(ad.add (k * 18)).block, (ad.add (k * 18)).off + 1, none⟩ = some (.int .i64 k1) ∧ W.cell? ⟨(ad.add (k * 18)).block, (ad.add (k * 18)).off + 2, none⟩ = some (.int .u32 s1.1) ∧ W.cell? ⟨(ad.add (k * 18)).block, (ad.add (k * 18)).off + 3, none⟩ = some (.int .u32 s1.2) ∧ W.cell? ⟨(ad.add (k * 18)).block, (ad.add (k * 18)).off + 4, none⟩ = some (.bool n1) ∧ W.cell? ⟨(ad.add (k * 18)).block, (ad.add (k * 18)).off + 5, none⟩ = some (.int .i64 lo1) ∧ W.cell? ⟨(ad.add (k * 18)).block, (ad.add (k * 18)).off + 6, none⟩ = some (.int .i64 hi1) ∧ W.cell? ⟨(ad.add (k * 18)).block, (ad.add (k * 18)).off + 7, none⟩ = some (.slice A1 m1 c1) ∧ W.cell? ⟨(ad.add (k * 18)).block, (ad.add (k * 18)).off + 8, none⟩ = some (.int .i64 k2) ∧ W.cell? ⟨(ad.add (k * 18)).block, (ad.add (k * 18)).off + 9, none⟩ = some (.int .u32 s2.1) ∧ W.cell? ⟨(ad.add (k * 18)).block, (ad.add (k * 18)).off + 10, none⟩ = some (.int .u32 s2.2) ∧ W.cell? ⟨(ad.add (k * 18)).block, (ad.add (k * 18)).off + 11, none⟩ = some (.bool n2) ∧ W.cell? ⟨(ad.add (k * 18)).block, (ad.add (k * 18)).off + 12, none⟩ = some (.int .i64 lo2) ∧ W.cell? ⟨(ad.add (k * 18)).block, (ad.add (k * 18)).off + 13, none⟩ = some (.int .i64 hi2) ∧ W.cell? ⟨(ad.add (k * 18)).block, (ad.add (k * 18)).off + 14, none⟩ = some (.slice A2 m2 c2) := fun W hW => by
      have hk' := fun (j : Nat) (u : Value) (hj : 0 < j) (hu : [.string nm, .int .i64 k1, .int .u32 s1.1, .int .u32 s1.2, .bool n1, .int .i64 lo1, .int .i64 hi1, .slice A1 m1 c1, .int .i64 k2, .int .u32 s2.1, .int .u32 s2.2, .bool n2, .int .i64 lo2, .int .i64 hi2, .slice A2 m2 c2, .slice A3 i3 c3, .slice A4 i4 c4, .int .i64 mode][j]? = some u) => (hW.cell (p := ⟨(ad.add (k * 18)).block, (ad.add (k * 18)).off + j, none⟩) (Nat.lt_of_lt_of_le (hadb (k * 18)) hB)).trans (hcell j u hj hu)
      exact ⟨hk' 1 _ (by omega) rfl, hk' 2 _ (by omega) rfl, hk' 3 _ (by omega) rfl, hk' 4 _ (by omega) rfl, hk' 5 _ (by omega) rfl, hk' 6 _ (by omega) rfl, hk' 7 _ (by omega) rfl, hk' 8 _ (by omega) rfl, hk' 9 _ (by omega) rfl, hk' 10 _ (by omega) rfl, hk' 11 _ (by omega) rfl, hk' 12 _ (by omega) rfl, hk' 13 _ (by omega) rfl, hk' 14 _ (by omega) rfl⟩
    have hq := hS _ HBW.out.drew
    have hq2 := hS _ (HBW.out.drew.alloc HBW.out.size (.cells #[.int .i64 k1, .int .u32 s1.1, .int .u32 s1.2, .bool n1, .int .i64 lo1, .int .i64 hi1, .slice A1 m1 c1, .int .i64 k2, .int .u32 s2.1, .int .u32 s2.2, .bool n2, .int .i64 lo2, .int .i64 hi2, .slice A2 m2 c2] 58))
    have HP1 := Lib.hid hp1; have HP2 := Lib.hid hp2
    have hb1 := HBW.out.drew.alloc HBW.out.size (.cells #[.int .i64 k1, .int .u32 s1.1, .int .u32 s1.2, .bool n1, .int .i64 lo1, .int .i64 hi1, .slice A1 m1 c1, .int .i64 k2, .int .u32 s2.1, .int .u32 s2.2, .bool n2, .int .i64 lo2, .int .i64 hi2, .slice A2 m2 c2] 58)
    have hrow := Blk.new V.drew 58 #[.int .i64 k1, .int .u32 s1.1, .int .u32 s1.2, .bool n1, .int .i64 lo1, .int .i64 hi1, .slice A1 m1 c1, .int .i64 k2, .int .u32 s2.1, .int .u32 s2.2, .bool n2, .int .i64 lo2, .int .i64 hi2, .slice A2 m2 c2]
    have HB1 := Lib.hid hb1; have HROW := Lib.hid hrow
    clear hcell hcc hP hp1 hp2 hS hb1 hrow hp1e hp2e
    go_wp2
    refine wp_region_held_drew (S := (fun W => W.cell? ⟨(ad.add (k * 18)).block, (ad.add (k * 18)).off + 1, none⟩ = some (.int .i64 k1) ∧ W.cell? ⟨(ad.add (k * 18)).block, (ad.add (k * 18)).off + 2, none⟩ = some (.int .u32 s1.1) ∧ W.cell? ⟨(ad.add (k * 18)).block, (ad.add (k * 18)).off + 3, none⟩ = some (.int .u32 s1.2) ∧ W.cell? ⟨(ad.add (k * 18)).block, (ad.add (k * 18)).off + 4, none⟩ = some (.bool n1) ∧ W.cell? ⟨(ad.add (k * 18)).block, (ad.add (k * 18)).off + 5, none⟩ = some (.int .i64 lo1) ∧ W.cell? ⟨(ad.add (k * 18)).block, (ad.add (k * 18)).off + 6, none⟩ = some (.int .i64 hi1) ∧ W.cell? ⟨(ad.add (k * 18)).block, (ad.add (k * 18)).off + 7, none⟩ = some (.slice A1 m1 c1) ∧ W.cell? ⟨(ad.add (k * 18)).block, (ad.add (k * 18)).off + 8, none⟩ = some (.int .i64 k2) ∧ W.cell? ⟨(ad.add (k * 18)).block, (ad.add (k * 18)).off + 9, none⟩ = some (.int .u32 s2.1) ∧ W.cell? ⟨(ad.add (k * 18)).block, (ad.add (k * 18)).off + 10, none⟩ = some (.int .u32 s2.2) ∧ W.cell? ⟨(ad.add (k * 18)).block, (ad.add (k * 18)).off + 11, none⟩ = some (.bool n2) ∧ W.cell? ⟨(ad.add (k * 18)).block, (ad.add (k * 18)).off + 12, none⟩ = some (.int .i64 lo2) ∧ W.cell? ⟨(ad.add (k * 18)).block, (ad.add (k * 18)).off + 13, none⟩ = some (.int .i64 hi2) ∧ W.cell? ⟨(ad.add (k * 18)).block, (ad.add (k * 18)).off + 14, none⟩ = some (.slice A2 m2 c2))) (by kernel_rfl) ?_ (fun hHeld => ?_)
    · (try dsimp only)
      (first | exact hq | exact hq2)
    refine wpAnyH_take (i := 0) (v := ?_) rfl (by kernel_rfl) (by kernel_rfl) (by kernel_rfl) (fun _ _ _ h => h) (Or.inl ⟨by rfl, ?_⟩) (by assumption) ?_
    rotate_left
    · intro w hSw
      (try dsimp only at hSw)
      go_simp <;> with_reducible rfl
    try simp only [Act.put, List.getElem_toArray, List.getElem_cons_succ, List.getElem_cons_zero, List.setIfInBounds_toArray, List.set_cons_zero, List.set_cons_succ]
    refine wpAnyH_take (i := 1) (v := ?_) rfl (by kernel_rfl) (by kernel_rfl) (by kernel_rfl) (fun _ _ _ h => h) (Or.inl ⟨by rfl, ?_⟩) (by assumption) ?_
    rotate_left
    · intro w hSw
      (try dsimp only at hSw)
      go_simp <;> with_reducible rfl
    try simp only [Act.put, List.getElem_toArray, List.getElem_cons_succ, List.getElem_cons_zero, List.setIfInBounds_toArray, List.set_cons_zero, List.set_cons_succ]
    refine wpAnyH_take (i := 2) (v := ?_) rfl (by kernel_rfl) (by kernel_rfl) (by kernel_rfl) (fun _ _ _ h => h) (Or.inl ⟨by rfl, ?_⟩) (by assumption) ?_
    rotate_left
    · intro w hSw
      (try dsimp only at hSw)
      go_simp <;> with_reducible rfl
    try simp only [Act.put, List.getElem_toArray, List.getElem_cons_succ, List.getElem_cons_zero, List.setIfInBounds_toArray, List.set_cons_zero, List.set_cons_succ]
    refine wpAnyH_take (i := 3) (v := ?_) rfl (by kernel_rfl) (by kernel_rfl) (by kernel_rfl) (fun _ _ _ h => h) (Or.inl ⟨by rfl, ?_⟩) (by assumption) ?_
    rotate_left
    · intro w hSw
      (try dsimp only at hSw)
      go_simp <;> with_reducible rfl
    try simp only [Act.put, List.getElem_toArray, List.getElem_cons_succ, List.getElem_cons_zero, List.setIfInBounds_toArray, List.set_cons_zero, List.set_cons_succ]
    refine wpAnyH_take (i := 4) (v := ?_) rfl (by kernel_rfl) (by kernel_rfl) (by kernel_rfl) (fun _ _ _ h => h) (Or.inl ⟨by rfl, ?_⟩) (by assumption) ?_
    rotate_left
    · intro w hSw
      (try dsimp only at hSw)
      go_simp <;> with_reducible rfl
    try simp only [Act.put, List.getElem_toArray, List.getElem_cons_succ, List.getElem_cons_zero, List.setIfInBounds_toArray, List.set_cons_zero, List.set_cons_succ]
    refine wpAnyH_take (i := 5) (v := ?_) rfl (by kernel_rfl) (by kernel_rfl) (by kernel_rfl) (fun _ _ _ h => h) (Or.inl ⟨by rfl, ?_⟩) (by assumption) ?_
    rotate_left
    · intro w hSw
      (try dsimp only at hSw)
      go_simp <;> with_reducible rfl
    try simp only [Act.put, List.getElem_toArray, List.getElem_cons_succ, List.getElem_cons_zero, List.setIfInBounds_toArray, List.set_cons_zero, List.set_cons_succ]
    refine wpAnyH_take (i := 6) (v := ?_) rfl (by kernel_rfl) (by kernel_rfl) (by kernel_rfl) (fun _ _ _ h => h) (Or.inl ⟨by rfl, ?_⟩) (by assumption) ?_
    rotate_left
    · intro w hSw
      (try dsimp only at hSw)
      go_simp <;> with_reducible rfl
    try simp only [Act.put, List.getElem_toArray, List.getElem_cons_succ, List.getElem_cons_zero, List.setIfInBounds_toArray, List.set_cons_zero, List.set_cons_succ]
    refine wpAnyH_take (i := 7) (v := ?_) rfl (by kernel_rfl) (by kernel_rfl) (by kernel_rfl) (fun _ _ _ h => h) (Or.inl ⟨by rfl, ?_⟩) (by assumption) ?_
    rotate_left
    · intro w hSw
      (try dsimp only at hSw)
      go_simp <;> with_reducible rfl
    try simp only [Act.put, List.getElem_toArray, List.getElem_cons_succ, List.getElem_cons_zero, List.setIfInBounds_toArray, List.set_cons_zero, List.set_cons_succ]
    refine wpAnyH_take (i := 8) (v := ?_) rfl (by kernel_rfl) (by kernel_rfl) (by kernel_rfl) (fun _ _ _ h => h) (Or.inl ⟨by rfl, ?_⟩) (by assumption) ?_
    rotate_left
    · intro w hSw
      (try dsimp only at hSw)
      go_simp <;> with_reducible rfl
    try simp only [Act.put, List.getElem_toArray, List.getElem_cons_succ, List.getElem_cons_zero, List.setIfInBounds_toArray, List.set_cons_zero, List.set_cons_succ]
    refine wpAnyH_take (i := 9) (v := ?_) rfl (by kernel_rfl) (by kernel_rfl) (by kernel_rfl) (fun _ _ _ h => h) (Or.inl ⟨by rfl, ?_⟩) (by assumption) ?_
    rotate_left
    · intro w hSw
      (try dsimp only at hSw)
      go_simp <;> with_reducible rfl
    try simp only [Act.put, List.getElem_toArray, List.getElem_cons_succ, List.getElem_cons_zero, List.setIfInBounds_toArray, List.set_cons_zero, List.set_cons_succ]
    refine wpAnyH_take (i := 12) (v := ?_) rfl (by kernel_rfl) (by kernel_rfl) (by kernel_rfl) (fun _ _ _ h => h) (Or.inl ⟨by rfl, ?_⟩) (by assumption) ?_
    rotate_left
    · intro w hSw
      (try dsimp only at hSw)
      go_simp <;> with_reducible rfl
    try simp only [Act.put, List.getElem_toArray, List.getElem_cons_succ, List.getElem_cons_zero, List.setIfInBounds_toArray, List.set_cons_zero, List.set_cons_succ]
    refine wpAnyH_ready (rs := [10]) (by kernel_rfl) (by simp) ?_
    refine AllReadyH.cons rfl (fun K hK => ?_) AllReadyH.nil
    go_simp
    refine hK.out _ _ ?_ (fun hHeld' => ?_)
    · (try dsimp only)
      (first | exact hq | exact hq2)
    clear hK K hHeld
    have hHeld := hHeld'
    clear hHeld'
    refine wpAnyH_take (i := 11) (v := ?_) rfl (by kernel_rfl) (by kernel_rfl) (by kernel_rfl) (fun _ _ _ h => h) (Or.inl ⟨by rfl, ?_⟩) (by assumption) ?_
    rotate_left
    · intro w hSw
      (try dsimp only at hSw)
      go_simp <;> with_reducible rfl
    try simp only [Act.put, List.getElem_toArray, List.getElem_cons_succ, List.getElem_cons_zero, List.setIfInBounds_toArray, List.set_cons_zero, List.set_cons_succ]
    refine wpAnyH_done (by kernel_rfl) ?_ _
    go_wp2
    go_loopw [5, 30] (fun t i wr => ∃ (j x : Nat), j ≤ 2 ∧ i = .int .i64 j ∧ t = .int .i64 x ∧ x ≤ 40 * j ∧ Blk wr V.heap.size 58 #[.int .i64 k1, .int .u32 s1.1, .int .u32 s1.2, .bool n1, .int .i64 lo1, .int .i64 hi1, .slice A1 m1 c1, .int .i64 k2, .int .u32 s2.1, .int .u32 s2.2, .bool n2, .int .i64 lo2, .int .i64 hi2, .slice A2 m2 c2] ∧ Below w.heap.size w wr) (fun _ i _ => 2 - (RowKit.intOf i).toNat)
    case atStart => exact ⟨0, 0, by omega, rfl, rfl, by omega, HROW.out, HB1.out⟩
    case round =>
      obtain ⟨j, x, hj, rfl, rfl, hx, hbk, hby⟩ := hrel
      have HBK := Lib.hid hbk; have HBY := Lib.hid hby
      obtain ⟨Y, hY⟩ : ∃ W, W = wr := ⟨_, rfl⟩
      subst hY
      clear hbk hby hHeld hq hq2
      by_cases hj2 : j < 2
      · obtain rfl | rfl : j = 0 ∨ j = 1 := by omega
        · have hjI : (((0 : Nat) : Int)) < 2 := by omega
          have d0 := HBK.out.cell 0; have d1 := HBK.out.cell 1; have d2 := HBK.out.cell 2; have d3 := HBK.out.cell 3; have d4 := HBK.out.cell 4; have d5 := HBK.out.cell 5; have d6 := HBK.out.cell 6
          simp only [List.getElem?_toArray, List.getElem?_cons_zero, List.getElem?_cons_succ] at d0 d1 d2 d3 d4 d5 d6
          have hb2 := HBY.out.alloc HBY.out.size (.cells #[.int .i64 k1, .int .u32 s1.1, .int .u32 s1.2, .bool n1, .int .i64 lo1, .int .i64 hi1, .slice A1 m1 c1] 58)
          have hk2 := Blk.new Y 58 #[.int .i64 k1, .int .u32 s1.1, .int .u32 s1.2, .bool n1, .int .i64 lo1, .int .i64 hi1, .slice A1 m1 c1]
          have hsz2 : Y.heap.size < (Y.alloc (.cells #[.int .i64 k1, .int .u32 s1.1, .int .u32 s1.2, .bool n1, .int .i64 lo1, .int .i64 hi1, .slice A1 m1 c1] 58)).heap.size := by rw [World.size_alloc]; omega
          have hkr := HBK.out.alloc (.cells #[.int .i64 k1, .int .u32 s1.1, .int .u32 s1.2, .bool n1, .int .i64 lo1, .int .i64 hi1, .slice A1 m1 c1] 58)
          have hsize := refSize_any p1 k1 s1 n1 lo1 hi1 A1 m1 c1 (Y.alloc (.cells #[.int .i64 k1, .int .u32 s1.1, .int .u32 s1.2, .bool n1, .int .i64 lo1, .int .i64 hi1, .slice A1 m1 c1] 58)) B (HP1.out.below (hb2.mono hB)) (Nat.le_trans hB hb2.size)
          have hrep := fun (h : ptSize p1 ≤ 40) (W : World) (hW : Below w.heap.size w W) => repeats_any p1 k1 s1 n1 lo1 hi1 A1 m1 c1 W B (by omega) (HP1.out.below (hW.mono hB)) (Nat.le_trans hB hW.size)
          have HB2 := Lib.hid hb2; have HK2 := Lib.hid hk2; have HKR := Lib.hid hkr; have HSIZE := Lib.hid hsize; have HREP := Lib.hid hrep
          have b0 := hk2.cell 0; have b1 := hk2.cell 1; have b2 := hk2.cell 2; have b3 := hk2.cell 3; have b4 := hk2.cell 4; have b5 := hk2.cell 5; have b6 := hk2.cell 6
          simp only [List.getElem?_toArray, List.getElem?_cons_zero, List.getElem?_cons_succ] at b0 b1 b2 b3 b4 b5 b6
          clear hb2 hk2 hkr hsize hrep
          obtain ⟨q, hq⟩ : ∃ q, min (ptSize p1) 41 = q := ⟨_, rfl⟩
          have hsz := HSIZE.out
          rw [hq] at hsz
          have HSIZE2 := Lib.hid hsz; have HQ := Lib.hid hq
          clear hsz hq
          go_wp2_with fail
          refine HSIZE2.out.mono ?_
          rintro e w3 ⟨rfl, hb3⟩
          have HB3 := Lib.hid (HB2.out.trans (hb3.mono HB2.out.size)); have HK3 := Lib.hid (HK2.out.below hb3 hsz2); have HKR3 := Lib.hid (HKR.out.below hb3 HKR.out.lt)
          clear hb3 d0 d1 d2 d3 d4 d5 d6 b0 b1 b2 b3 b4 b5 b6
          by_cases hq40 : q ≤ 40
          · have hqI : (q : Int) ≤ 40 := by omega
            have hps : ptSize p1 ≤ 40 := by have := HQ.out; omega
            have hcall := HREP.out hps w3 HB3.out
            have HCALL := Lib.hid hcall
            have b0 := HK3.out.cell 0; have b1 := HK3.out.cell 1; have b2 := HK3.out.cell 2; have b3 := HK3.out.cell 3; have b4 := HK3.out.cell 4; have b5 := HK3.out.cell 5; have b6 := HK3.out.cell 6
            simp only [List.getElem?_toArray, List.getElem?_cons_zero, List.getElem?_cons_succ] at b0 b1 b2 b3 b4 b5 b6
            clear hcall hq40
            go_wp2_with fail
            refine HCALL.out.mono ?_
            rintro e w4 ⟨r4, hr4, rfl, hb4⟩
            have HB4 := Lib.hid (HB3.out.trans (hb4.mono HB3.out.size)); have HKR4 := Lib.hid (HKR3.out.below hb4 HKR3.out.lt)
            have hr40 : r4 ≤ 40 := by omega
            clear hb4 b0 b1 b2 b3 b4 b5 b6
            go_wp2
            go_roundw
            case rel => exact ⟨0 + 1, x + r4, by omega, by go_num, by go_num, by omega, HKR4.out, HB4.out⟩
            case measure => simp [RowKit.intOf]
          · have hqI : ¬ (q : Int) ≤ 40 := by omega
            clear hq40
            go_wp2
            go_roundw
            case rel => exact ⟨0 + 1, x, by omega, by go_num, rfl, by omega, HKR3.out, HB3.out⟩
            case measure => simp [RowKit.intOf]
        · have hjI : (((1 : Nat) : Int)) < 2 := by omega
          have d0 := HBK.out.cell 7; have d1 := HBK.out.cell 8; have d2 := HBK.out.cell 9; have d3 := HBK.out.cell 10; have d4 := HBK.out.cell 11; have d5 := HBK.out.cell 12; have d6 := HBK.out.cell 13
          simp only [List.getElem?_toArray, List.getElem?_cons_zero, List.getElem?_cons_succ] at d0 d1 d2 d3 d4 d5 d6
          have hb2 := HBY.out.alloc HBY.out.size (.cells #[.int .i64 k2, .int .u32 s2.1, .int .u32 s2.2, .bool n2, .int .i64 lo2, .int .i64 hi2, .slice A2 m2 c2] 58)
          have hk2 := Blk.new Y 58 #[.int .i64 k2, .int .u32 s2.1, .int .u32 s2.2, .bool n2, .int .i64 lo2, .int .i64 hi2, .slice A2 m2 c2]
          have hsz2 : Y.heap.size < (Y.alloc (.cells #[.int .i64 k2, .int .u32 s2.1, .int .u32 s2.2, .bool n2, .int .i64 lo2, .int .i64 hi2, .slice A2 m2 c2] 58)).heap.size := by rw [World.size_alloc]; omega
          have hkr := HBK.out.alloc (.cells #[.int .i64 k2, .int .u32 s2.1, .int .u32 s2.2, .bool n2, .int .i64 lo2, .int .i64 hi2, .slice A2 m2 c2] 58)
          have hsize := refSize_any p2 k2 s2 n2 lo2 hi2 A2 m2 c2 (Y.alloc (.cells #[.int .i64 k2, .int .u32 s2.1, .int .u32 s2.2, .bool n2, .int .i64 lo2, .int .i64 hi2, .slice A2 m2 c2] 58)) B (HP2.out.below (hb2.mono hB)) (Nat.le_trans hB hb2.size)
          have hrep := fun (h : ptSize p2 ≤ 40) (W : World) (hW : Below w.heap.size w W) => repeats_any p2 k2 s2 n2 lo2 hi2 A2 m2 c2 W B (by omega) (HP2.out.below (hW.mono hB)) (Nat.le_trans hB hW.size)
          have HB2 := Lib.hid hb2; have HK2 := Lib.hid hk2; have HKR := Lib.hid hkr; have HSIZE := Lib.hid hsize; have HREP := Lib.hid hrep
          have b0 := hk2.cell 0; have b1 := hk2.cell 1; have b2 := hk2.cell 2; have b3 := hk2.cell 3; have b4 := hk2.cell 4; have b5 := hk2.cell 5; have b6 := hk2.cell 6
          simp only [List.getElem?_toArray, List.getElem?_cons_zero, List.getElem?_cons_succ] at b0 b1 b2 b3 b4 b5 b6
          clear hb2 hk2 hkr hsize hrep
          obtain ⟨q, hq⟩ : ∃ q, min (ptSize p2) 41 = q := ⟨_, rfl⟩
          have hsz := HSIZE.out
          rw [hq] at hsz
          have HSIZE2 := Lib.hid hsz; have HQ := Lib.hid hq
          clear hsz hq
          go_wp2_with fail
          refine HSIZE2.out.mono ?_
          rintro e w3 ⟨rfl, hb3⟩
          have HB3 := Lib.hid (HB2.out.trans (hb3.mono HB2.out.size)); have HK3 := Lib.hid (HK2.out.below hb3 hsz2); have HKR3 := Lib.hid (HKR.out.below hb3 HKR.out.lt)
          clear hb3 d0 d1 d2 d3 d4 d5 d6 b0 b1 b2 b3 b4 b5 b6
          by_cases hq40 : q ≤ 40
          · have hqI : (q : Int) ≤ 40 := by omega
            have hps : ptSize p2 ≤ 40 := by have := HQ.out; omega
            have hcall := HREP.out hps w3 HB3.out
            have HCALL := Lib.hid hcall
            have b0 := HK3.out.cell 0; have b1 := HK3.out.cell 1; have b2 := HK3.out.cell 2; have b3 := HK3.out.cell 3; have b4 := HK3.out.cell 4; have b5 := HK3.out.cell 5; have b6 := HK3.out.cell 6
            simp only [List.getElem?_toArray, List.getElem?_cons_zero, List.getElem?_cons_succ] at b0 b1 b2 b3 b4 b5 b6
            clear hcall hq40
            go_wp2_with fail
            refine HCALL.out.mono ?_
            rintro e w4 ⟨r4, hr4, rfl, hb4⟩
            have HB4 := Lib.hid (HB3.out.trans (hb4.mono HB3.out.size)); have HKR4 := Lib.hid (HKR3.out.below hb4 HKR3.out.lt)
            have hr40 : r4 ≤ 40 := by omega
            clear hb4 b0 b1 b2 b3 b4 b5 b6
            go_wp2
            go_roundw
            case rel => exact ⟨1 + 1, x + r4, by omega, by go_num, by go_num, by omega, HKR4.out, HB4.out⟩
            case measure => simp [RowKit.intOf]
          · have hqI : ¬ (q : Int) ≤ 40 := by omega
            clear hq40
            go_wp2
            go_roundw
            case rel => exact ⟨1 + 1, x, by omega, by go_num, rfl, by omega, HKR3.out, HB3.out⟩
            case measure => simp [RowKit.intOf]
      · obtain rfl : j = 2 := by omega
        have hx80 : x ≤ 80 := by omega
        clear hx hj hj2
        by_cases hmx : r ≤ x
        · go_wp2
          go_roundw
          case rel => exact ⟨k + 1, x, by omega, by go_num, by go_num, by omega, HBY.out⟩
          case measure => simp [RowKit.intOf]; omega
        · go_wp2
          go_roundw
          case rel => exact ⟨k + 1, r, by omega, by go_num, by go_num, by omega, HBY.out⟩
          case measure => simp [RowKit.intOf]; omega
end Go.Proofs.YtmepaeahchiglaaGreatDoor

