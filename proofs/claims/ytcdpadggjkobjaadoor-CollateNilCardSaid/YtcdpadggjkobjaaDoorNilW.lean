/-
  CollateNil of layer 39, walked. Conditions: the cell of the library's MaxLen holds some int; arguments of the reach.
-/
import Derived.Test.YtcdpadggjkobjaaDoorUnmade
namespace Go.Proofs.YtcdpadggjkobjaaDoor
open Go.RowKit Go.Lib

set_option maxRecDepth 100000 in
set_option maxHeartbeats 4000000 in
theorem nil_any (A : Option Addr) (n c : Nat) (ss : List ByteArray) (s t : ByteArray) (w : World) (hm : MaxOk w) (hr : ReadS w w.heap.size A n ss) (hs : ∀ s ∈ ss, okS s) (hn : n ≤ maxLen) (hz : s.size ≤ maxLen) (hzt : t.size ≤ maxLen) :
    Calls Tryd.prog 10 #[.slice A n c, .string s, .string t] w (WorksPost w) := by
  have hf := few_any A n c ss 300 4000 w _ hr hs hn (by omega)
  unfold maxLen at hz hzt
  by_cases hF : fewB ss 300 4000 = true ∧ s.size ≤ 1000 ∧ t.size ≤ 1000
  · obtain ⟨h1, h2, h2t⟩ := hF
    rw [h1] at hf
    have kw := fun W (hb : Below w.heap.size w W) => works_any W (hm.below hb)
    have KW := Lib.hid kw
    clear kw h1 hm hr hs hn
    go_enter Tryd.func10, Tryd.ntmps10
    go_wp2_with fail
    refine hf.mono ?_
    rintro e w' ⟨rfl, rfl⟩
    go_wp2
    obtain ⟨W0, hW0⟩ : ∃ W0, (w.alloc (.cells Tryd.zeroCells66 66)).alloc (.cells #[.pointer none, .pointer (some ⟨w.heap.size, 0, none⟩)] 25) = W0 := ⟨_, rfl⟩
    rw [hW0]
    have hb0 : Below w.heap.size w W0 := by rw [← hW0]; exact ((Below.refl _ w).alloc (Nat.le_refl _) _).alloc (by simp) _
    have b1 : Blk W0 (w.heap.size + 1) 25 #[.pointer none, .pointer (some ⟨w.heap.size, 0, none⟩)] := by
      rw [← hW0]
      have := Blk.new (w.alloc (.cells Tryd.zeroCells66 66)) 25 #[.pointer none, .pointer (some ⟨w.heap.size, 0, none⟩)]
      rwa [World.size_alloc] at this
    have hU0 : Unmade W0 (some ⟨w.heap.size, 0, none⟩) := by
      refine .inr ⟨w.heap.size, rfl, by rw [← hW0]; simp; omega, ?_⟩
      have h0 : Tryd.zeroCells66 = #[.slice none 0 0, .map none] ++ Array.replicate 256 (.int .i64 0) := by kernel_rfl
      have hb : Blk W0 w.heap.size 66 Tryd.zeroCells66 := by rw [← hW0]; exact (Blk.new w _ _).alloc _
      rw [hb.cell 1, h0]
      simp
    have hP : ∀ k, k < 2 → ∀ W, Below W0.heap.size W0 W → ∃ p, W.cell? ⟨w.heap.size + 1, k, none⟩ = some (.pointer p) ∧ Unmade W p := by
      intro k hk W hW
      have hc := fun j => (b1.below hW b1.lt).cell j
      rcases (show k = 0 ∨ k = 1 by omega) with rfl | rfl
      · exact ⟨none, hc 0, .inl rfl⟩
      · exact ⟨_, hc 1, hU0.below hW⟩
    have HP := Lib.hid hP
    clear hP hU0 b1 hW0 hf
    go_loopw [44] (fun i wr => ∃ k : Nat, k ≤ 2 ∧ i = .int .i64 k ∧ Below W0.heap.size W0 wr) (fun i _ => 2 - (intOf i).toNat)
    case atStart => exact ⟨0, by omega, rfl, Below.refl _ _⟩
    case round =>
      obtain ⟨k, hk, rfl, hb⟩ := hrel
      by_cases hlt : k < 2
      · obtain ⟨p, hc, hU⟩ := HP.out k hlt wr hb
        have HU := Lib.hid hU; clear hU
        go_wp2_with fail
        refine (split0 p s wr HU.out).mono ?_
        rintro e w1 ⟨rfl, hb1⟩
        go_wp2_with fail
        refine (key0 p s w1 (HU.out.below hb1)).mono ?_
        rintro e w2 ⟨rfl, hb2⟩
        have hb12 := hb1.trans (hb2.mono hb1.size)
        go_wp2_with fail
        refine (order0 p s t w2 (HU.out.below hb12)).mono ?_
        rintro e w3 ⟨rfl, hb3⟩
        have hb13 := hb12.trans (hb3.mono hb12.size)
        go_wp2_with fail
        refine (sort0 p _ w3 (HU.out.below hb13)).mono ?_
        rintro e w4 ⟨rfl, hb4⟩
        have hb14 := hb13.trans (hb4.mono hb13.size)
        go_wp2_with fail
        refine (heads0 p _ w4 (HU.out.below hb14)).mono ?_
        rintro e w5 ⟨rfl, hb5⟩
        have hb15 := hb14.trans (hb5.mono hb14.size)
        go_wp2_with fail
        refine (between0 p _ s t w5 (HU.out.below hb15)).mono ?_
        rintro e w6 ⟨rfl, hb6⟩
        have hb16 := hb15.trans (hb6.mono hb15.size)
        go_wp2_with fail
        refine (letters0 p w6 (HU.out.below hb16)).mono ?_
        rintro e w7 ⟨rfl, hb7⟩
        have hb17 := hb16.trans (hb7.mono hb16.size)
        go_wp2_with fail
        refine (same0 p s s w7 (HU.out.below hb17)).mono ?_
        rintro e w8 ⟨rfl, hb8⟩
        have hb18 := hb17.trans (hb8.mono hb17.size)
        have hbn := hb.trans (hb18.mono hb.size)
        clear hb1 hb2 hb12 hb3 hb13 hb4 hb14 hb5 hb15 hb6 hb16 hb7 hb17 hb8 hb18 hc HU
        have hblk := Blk.new w8 29 #[.int .i64 1, .int .i64 1, .int .i64 1, .int .i64 1, .int .i64 1, .int .i64 1]
        have hbz := hbn.alloc hbn.size (.cells #[.int .i64 1, .int .i64 1, .int .i64 1, .int .i64 1, .int .i64 1, .int .i64 1] 29)
        have hcz : ∀ j, j < 6 → (w8.alloc (.cells #[.int .i64 1, .int .i64 1, .int .i64 1, .int .i64 1, .int .i64 1, .int .i64 1] 29)).cell? ⟨w8.heap.size, j, none⟩ = some (.int .i64 1) := by
          intro j hj
          rw [hblk.cell j]
          rcases (show j = 0 ∨ j = 1 ∨ j = 2 ∨ j = 3 ∨ j = 4 ∨ j = 5 by omega) with rfl | rfl | rfl | rfl | rfl | rfl <;> rfl
        have HCZ := Lib.hid hcz; have HBZ := Lib.hid hbz
        clear hcz hbz hblk hbn
        go_wp2
        generalize w8.alloc (.cells #[.int .i64 1, .int .i64 1, .int .i64 1, .int .i64 1, .int .i64 1, .int .i64 1] 29) = wz at HCZ HBZ ⊢
        generalize w8.heap.size = hz8 at HCZ ⊢
        go_loop [126] (fun i => ∃ j : Nat, j ≤ 6 ∧ i = .int .i64 j) (fun i => 6 - (intOf i).toNat)
        case atStart => exact ⟨0, by omega, rfl⟩
        case round =>
          obtain ⟨j, hj, rfl⟩ := hrel
          by_cases hltj : j < 6
          · have hcj := HCZ.out j hltj
            go_wp2
            go_round
            case rel => exact ⟨j + 1, by omega, by go_num⟩
            case measure => simp [intOf]; omega
          · obtain rfl : j = 6 := by omega
            go_wp2
            go_roundw
            case rel => exact ⟨k + 1, by omega, by go_num, HBZ.out⟩
            case measure => simp [intOf]; omega
      · obtain rfl : k = 2 := by omega
        have hbn := hb0.trans (hb.mono hb0.size)
        go_wp2_with fail
        refine (KW.out _ hbn).mono ?_
        rintro e w8 ⟨rfl, hb8⟩
        go_wp2
        go_ret
        exact ⟨rfl, hbn.trans (hb8.mono hbn.size)⟩
  · have kw := works_any w hm
    by_cases h1 : fewB ss 300 4000 = true
    · rw [h1] at hf
      have h2 : 1000 < s.size ∨ (s.size ≤ 1000 ∧ 1000 < t.size) := by
        rcases Nat.lt_or_ge 1000 s.size with h | h
        · exact .inl h
        · rcases Nat.lt_or_ge 1000 t.size with h' | h'
          · exact .inr ⟨h, h'⟩
          · exact absurd ⟨h1, h, h'⟩ hF
      clear h1 hF hm hr hs hn
      rcases h2 with h2 | ⟨h2, h3⟩
      all_goals
        go_enter Tryd.func10, Tryd.ntmps10
        go_wp2_with fail
        refine hf.mono ?_
        rintro e w' ⟨rfl, rfl⟩
        go_wp2_with fail
        refine kw.mono ?_
        rintro e w8 ⟨rfl, hb8⟩
        go_wp2
        go_ret
        exact ⟨rfl, hb8⟩
    · rw [Bool.not_eq_true] at h1
      rw [h1] at hf
      clear h1 hF hm hr hs hn
      go_enter Tryd.func10, Tryd.ntmps10
      go_wp2_with fail
      refine hf.mono ?_
      rintro e w' ⟨rfl, rfl⟩
      go_wp2_with fail
      refine kw.mono ?_
      rintro e w8 ⟨rfl, hb8⟩
      go_wp2
      go_ret
      exact ⟨rfl, hb8⟩
end Go.Proofs.YtcdpadggjkobjaaDoor
