/-
  layer 25: Same, two times the same history. Conditions: histories that can be read.
-/
import Derived.Test.YtmepaeahchiglaaGreatDoorZbax
namespace Go.Proofs.YtmepaeahchiglaaGreatDoor
open Go.RowKit Go.Lib

theorem SlC.mv {α : Type} {P : World → Nat → α → List Value → Prop} {k B : Nat} {w W : World} {l : List α} {v : Value} (h : SlC P k w B l v) (hb : Below w.heap.size w W) (hB : B ≤ w.heap.size) (hP : ∀ x cs, P w B x cs → P W B x cs) : SlC P k W B l v :=
  SlC.plain (fun q hq => hb.cell (p := q) (by omega)) h hP
set_option linter.unusedSimpArgs false in
set_option linter.unusedVariables false in
set_option maxRecDepth 20000 in
set_option maxHeartbeats 4000000 in
theorem sameHist_any (w : World) (B : Nat) (t : List Nd) (ls : List Lw) (on : List (List Int)) (v4 v5 v6 v4' v5' v6' : Value) (h4 : SlC NdC 2 w B t v4) (h5 : SlC LawC 18 w B ls v5) (h6 : SlC OnC 1 w B on v6) (h4' : SlC NdC 2 w B t v4') (h5' : SlC LawC 18 w B ls v5') (h6' : SlC OnC 1 w B on v6')
    (hB : B ≤ w.heap.size) (hnm : ∀ x ∈ ls, x.name.size ≤ maxLen) :
    Calls Tryz.prog 59 #[.agg #[v4, v5, v6], .agg #[v4', v5', v6']] w fun e w' => e = .returned (.bool true) ∧ Below w.heap.size w w' := by
  obtain ⟨A4, m4, c4, rfl, n4⟩ := h4.form
  obtain ⟨A5, m5, c5, rfl, n5⟩ := h5.form
  obtain ⟨A6, m6, c6, rfl, n6⟩ := h6.form
  obtain ⟨A4', m4', c4', rfl, n4'⟩ := h4'.form
  obtain ⟨A5', m5', c5', rfl, n5'⟩ := h5'.form
  obtain ⟨A6', m6', c6', rfl, n6'⟩ := h6'.form
  obtain rfl : m4' = m4 := by rw [n4, n4']
  obtain rfl : m5' = m5 := by rw [n5, n5']
  obtain rfl : m6' = m6 := by rw [n6, n6']
  obtain ⟨-, hm4, hx4⟩ := h4.len
  obtain ⟨-, hm6, hx6⟩ := h6.len
  unfold maxLen at hx4 hx6
  have b1 := (Blk.new w 29 #[.slice A4 m4' c4, .slice A5 m5' c5, .slice A6 m6' c6]).alloc (.cells #[.slice A4' m4' c4', .slice A5' m5' c5', .slice A6' m6' c6'] 29)
  have b2 := Blk.new (w.alloc (.cells #[.slice A4 m4' c4, .slice A5 m5' c5, .slice A6 m6' c6] 29)) 29 #[.slice A4' m4' c4', .slice A5' m5' c5', .slice A6' m6' c6']
  rw [World.size_alloc] at b2
  have hst := ((Below.refl w.heap.size w).alloc (Nat.le_refl _) (.cells #[.slice A4 m4' c4, .slice A5 m5' c5, .slice A6 m6' c6] 29)).alloc (by simp) (.cells #[.slice A4' m4' c4', .slice A5' m5' c5', .slice A6' m6' c6'] 29)
  obtain ⟨Z0, hZ0⟩ : ∃ Z, (w.alloc (.cells #[.slice A4 m4' c4, .slice A5 m5' c5, .slice A6 m6' c6] 29)).alloc (.cells #[.slice A4' m4' c4', .slice A5' m5' c5', .slice A6' m6' c6'] 29) = Z := ⟨_, rfl⟩
  have hsz0 : Z0.heap.size = w.heap.size + 1 + 1 := by rw [← hZ0]; simp
  rw [hZ0] at b1 b2 hst
  have g4 := h4.mv hst hB fun _ _ h => h
  have g4' := h4'.mv hst hB fun _ _ h => h
  have g5 := h5.mv hst hB fun _ _ h => h.below (hst.mono hB)
  have g5' := h5'.mv hst hB fun _ _ h => h.below (hst.mono hB)
  have g6 := h6.mv hst hB fun _ _ h => OnC.keep (fun q hq => hst.cell (p := q) (by omega)) h
  have g6' := h6'.mv hst hB fun _ _ h => OnC.keep (fun q hq => hst.cell (p := q) (by omega)) h
  have hBz : B ≤ Z0.heap.size := by omega
  have hlaws := eqLaws_any Z0 B ls _ _ g5 g5' hBz hnm
  have HZ0 := Lib.hid hZ0; have HST := Lib.hid hst; have HB1 := Lib.hid b1; have HB2 := Lib.hid b2; have G4 := Lib.hid g4; have G4' := Lib.hid g4'; have G6 := Lib.hid g6; have G6' := Lib.hid g6'; have HLAWS := Lib.hid hlaws; have N4 := Lib.hid n4; have N6 := Lib.hid n6
  have y0 := b1.cell 0; have y1 := b1.cell 1; have y2 := b1.cell 2; have z0 := b2.cell 0; have z1 := b2.cell 1; have z2 := b2.cell 2
  simp only [List.getElem?_toArray, List.getElem?_cons_zero, List.getElem?_cons_succ] at y0 y1 y2 z0 z1 z2
  clear hZ0 hst b1 b2 g4 g4' g5 g5' g6 g6' h4 h5 h6 h4' h5' h6' hlaws n4 n5 n6 n4' n5' n6' hnm
  go_enter Tryz.func59, Tryz.ntmps59
  go_wp2_with (rw [HZ0.out])
  refine HLAWS.out.mono ?_
  rintro e w1 ⟨rfl, hb1⟩
  have H1 := Lib.hid hb1
  clear hb1 y0 y1 y2 z0 z1 z2
  go_wp2
  go_loopw [5] (fun i wr => ∃ k : Nat, k ≤ m4' ∧ i = .int .i64 k ∧ Below Z0.heap.size Z0 wr) (fun i _ => m4' - (RowKit.intOf i).toNat)
  case atStart => exact ⟨0, by omega, rfl, H1.out⟩
  case round =>
    obtain ⟨k, hk, rfl, hbw⟩ := hrel
    have y0 := (HB1.out.below hbw (by omega)).cell 0; have y2 := (HB1.out.below hbw (by omega)).cell 2
    have z0 := (HB2.out.below hbw (by omega)).cell 0; have z2 := (HB2.out.below hbw (by omega)).cell 2
    simp only [List.getElem?_toArray, List.getElem?_cons_zero, List.getElem?_cons_succ] at y0 y2 z0 z2
    have HBW := Lib.hid hbw
    clear hbw
    by_cases hlt : k < m4'
    · have hkl : k < t.length := by have := N4.out; omega
      have hkI : (k : Int) < (m4' : Int) := by omega
      obtain ⟨ad, cs, rfl, hP, hc0, hcc, -⟩ := SlC.at_ (fun x cs h => by obtain rfl : cs = [Value.int .i64 x.1, Value.string x.2] := h; rfl) G4.out HBW.out hBz hkl
      obtain ⟨ad', cs', rfl, hP', hc0', hcc', -⟩ := SlC.at_ (fun x cs h => by obtain rfl : cs = [Value.int .i64 x.1, Value.string x.2] := h; rfl) G4'.out HBW.out hBz hkl
      generalize t[k] = x at *
      obtain rfl : cs = [Value.int .i64 x.1, Value.string x.2] := hP
      obtain rfl : cs' = [Value.int .i64 x.1, Value.string x.2] := hP'
      have e0 := hc0 _ rfl
      have d0 := hc0' _ rfl
      have e1 := hcc 0 _ rfl
      have d1 := hcc' 0 _ rfl
      clear hc0 hcc hc0' hcc'
      go_wp2
      go_region
      go_wp2
      go_roundw
      case rel => exact ⟨k + 1, by omega, by go_num, HBW.out.drew⟩
      case measure => simp [RowKit.intOf]; omega
    · obtain rfl : k = m4' := by omega
      go_wp2
      clear y0 y2 z0 z2
      go_loopw [6] (fun i wr => ∃ k : Nat, k ≤ m6' ∧ i = .int .i64 k ∧ Below Z0.heap.size Z0 wr) (fun i _ => m6' - (RowKit.intOf i).toNat)
      case atStart => exact ⟨0, by omega, rfl, HBW.out⟩
      case round =>
        obtain ⟨j, hj, rfl, hbv⟩ := hrel
        have y2 := (HB1.out.below hbv (by omega)).cell 2
        have z2 := (HB2.out.below hbv (by omega)).cell 2
        simp only [List.getElem?_toArray, List.getElem?_cons_zero, List.getElem?_cons_succ] at y2 z2
        have HBV := Lib.hid hbv
        clear hbv
        by_cases hlj : j < m6'
        · have hjl : j < on.length := by have := N6.out; omega
          have hjI : (j : Int) < (m6' : Int) := by omega
          have hj0 : (0 : Int) ≤ (j : Int) := by omega
          obtain ⟨ad, cs, rfl, hP, hc0, -, -⟩ := SlC.at_ (fun x cs h => by obtain ⟨v, rfl, -⟩ := h; rfl) G6.out HBV.out.drew hBz hjl
          obtain ⟨ad', cs', rfl, hP', hc0', -, -⟩ := SlC.at_ (fun x cs h => by obtain ⟨v, rfl, -⟩ := h; rfl) G6'.out HBV.out.drew hBz hjl
          generalize on[j] = x at *
          obtain ⟨q, rfl, hq⟩ := hP
          obtain ⟨q', rfl, hq'⟩ := hP'
          obtain ⟨X, mx, cx, rfl, -⟩ := hq.form
          obtain ⟨X', mx', cx', rfl, -⟩ := hq'.form
          have hbd := HBV.out.drew
          have hcall := eqInt_any _ B x _ _ (hq.mv hbd hBz fun _ _ h => h) (hq'.mv hbd hBz fun _ _ h => h) (by have := hbd.size; omega)
          have e0 := hc0 _ rfl
          have d0 := hc0' _ rfl
          rw [Nat.mul_one] at e0 d0
          rename_i wv
          have hy2 := (HB1.out.below hbd (by omega)).cell 2
          have hz2 := (HB2.out.below hbd (by omega)).cell 2
          simp only [List.getElem?_toArray, List.getElem?_cons_zero, List.getElem?_cons_succ] at hy2 hz2
          have hq1 := And.intro (And.intro hy2 hz2) (And.intro e0 d0)
          have HCALL := Lib.hid hcall; have HQ1 := Lib.hid hq1
          clear hc0 hc0' hq hq' hcall hbd e0 d0 hy2 hz2
          go_wp2
          refine wp_region_held_drew (S := (fun W => (W.cell? ⟨w.heap.size, 2, none⟩ = some (.slice (some ad) m6' c6) ∧ W.cell? ⟨w.heap.size + 1, 2, none⟩ = some (.slice (some ad') m6' c6')) ∧ W.cell? (ad.add j) = some (.slice X mx cx) ∧ W.cell? (ad'.add j) = some (.slice X' mx' cx'))) (by kernel_rfl) ?_ (fun hHeld => ?_)
          · (try dsimp only)
            (first | exact hq1 | exact hs2)
          refine wpAnyH_take (i := 0) (v := ?_) rfl (by kernel_rfl) (by kernel_rfl) (by kernel_rfl) (fun _ _ _ h => h) (Or.inl ⟨by rfl, ?_⟩) (by assumption) ?_
          rotate_left
          · intro w hSw
            (try dsimp only at hSw)
            go_simp <;> with_reducible rfl
          try simp only [Act.put, List.getElem_toArray, List.getElem_cons_succ, List.getElem_cons_zero, List.setIfInBounds_toArray, List.set_cons_zero, List.set_cons_succ]
          refine wpAnyH_take (i := 1) (v := ?_) rfl (by kernel_rfl) (by kernel_rfl) (by kernel_rfl) (fun _ _ _ h => h) (Or.inl ⟨by rfl, ?_⟩) (by assumption) ?_
          rotate_left
          · intro w hSw
            (try dsimp only at hSw)
            go_simp <;> with_reducible rfl
          try simp only [Act.put, List.getElem_toArray, List.getElem_cons_succ, List.getElem_cons_zero, List.setIfInBounds_toArray, List.set_cons_zero, List.set_cons_succ]
          refine wpAnyH_take (i := 2) (v := ?_) rfl (by kernel_rfl) (by kernel_rfl) (by kernel_rfl) (fun _ _ _ h => h) (Or.inl ⟨by rfl, ?_⟩) (by assumption) ?_
          rotate_left
          · intro w hSw
            (try dsimp only at hSw)
            go_simp <;> with_reducible rfl
          try simp only [Act.put, List.getElem_toArray, List.getElem_cons_succ, List.getElem_cons_zero, List.setIfInBounds_toArray, List.set_cons_zero, List.set_cons_succ]
          refine wpAnyH_take (i := 3) (v := ?_) rfl (by kernel_rfl) (by kernel_rfl) (by kernel_rfl) (fun _ _ _ h => h) (Or.inl ⟨by rfl, ?_⟩) (by assumption) ?_
          rotate_left
          · intro w hSw
            (try dsimp only at hSw)
            go_simp <;> with_reducible rfl
          try simp only [Act.put, List.getElem_toArray, List.getElem_cons_succ, List.getElem_cons_zero, List.setIfInBounds_toArray, List.set_cons_zero, List.set_cons_succ]
          refine wpAnyH_take (i := 4) (v := ?_) rfl (by kernel_rfl) (by kernel_rfl) (by kernel_rfl) (fun _ _ _ h => h) (Or.inl ⟨by rfl, ?_⟩) (by assumption) ?_
          rotate_left
          · intro w hSw
            (try dsimp only at hSw)
            go_simp <;> with_reducible rfl
          try simp only [Act.put, List.getElem_toArray, List.getElem_cons_succ, List.getElem_cons_zero, List.setIfInBounds_toArray, List.set_cons_zero, List.set_cons_succ]
          refine wpAnyH_take (i := 5) (v := ?_) rfl (by kernel_rfl) (by kernel_rfl) (by kernel_rfl) (fun _ _ _ h => h) (Or.inl ⟨by rfl, ?_⟩) (by assumption) ?_
          rotate_left
          · intro w hSw
            (try dsimp only at hSw)
            go_simp <;> with_reducible rfl
          try simp only [Act.put, List.getElem_toArray, List.getElem_cons_succ, List.getElem_cons_zero, List.setIfInBounds_toArray, List.set_cons_zero, List.set_cons_succ]
          refine wpAnyH_take (i := 6) (v := ?_) rfl (by kernel_rfl) (by kernel_rfl) (by kernel_rfl) (fun _ _ _ h => h) (Or.inl ⟨by rfl, ?_⟩) (by assumption) ?_
          rotate_left
          · intro w hSw
            (try dsimp only at hSw)
            go_simp <;> with_reducible rfl
          try simp only [Act.put, List.getElem_toArray, List.getElem_cons_succ, List.getElem_cons_zero, List.setIfInBounds_toArray, List.set_cons_zero, List.set_cons_succ]
          refine wpAnyH_take (i := 7) (v := ?_) rfl (by kernel_rfl) (by kernel_rfl) (by kernel_rfl) (fun _ _ _ h => h) (Or.inl ⟨by rfl, ?_⟩) (by assumption) ?_
          rotate_left
          · intro w hSw
            (try dsimp only at hSw)
            go_simp <;> with_reducible rfl
          try simp only [Act.put, List.getElem_toArray, List.getElem_cons_succ, List.getElem_cons_zero, List.setIfInBounds_toArray, List.set_cons_zero, List.set_cons_succ]
          refine wpAnyH_take (i := 8) (v := ?_) rfl (by kernel_rfl) (by kernel_rfl) (by kernel_rfl) (fun _ _ _ h => h) (Or.inl ⟨by rfl, ?_⟩) (by assumption) ?_
          rotate_left
          · intro w hSw
            (try dsimp only at hSw)
            go_simp <;> with_reducible rfl
          try simp only [Act.put, List.getElem_toArray, List.getElem_cons_succ, List.getElem_cons_zero, List.setIfInBounds_toArray, List.set_cons_zero, List.set_cons_succ]
          refine wpAnyH_take (i := 9) (v := ?_) rfl (by kernel_rfl) (by kernel_rfl) (by kernel_rfl) (fun _ _ _ h => h) (Or.inl ⟨by rfl, ?_⟩) (by assumption) ?_
          rotate_left
          · intro w hSw
            (try dsimp only at hSw)
            go_simp <;> with_reducible rfl
          try simp only [Act.put, List.getElem_toArray, List.getElem_cons_succ, List.getElem_cons_zero, List.setIfInBounds_toArray, List.set_cons_zero, List.set_cons_succ]
          refine wpAnyH_ready (rs := [10]) (by kernel_rfl) (by simp) ?_
          refine AllReadyH.cons rfl (fun K hK => ?_) AllReadyH.nil
          go_simp
          (try go_wp2_with fail)
          refine HCALL.out.mono ?_
          rintro e w2 ⟨rfl, hb2⟩
          have hs2 : (w2.cell? ⟨w.heap.size, 2, none⟩ = some (.slice (some ad) m6' c6) ∧ w2.cell? ⟨w.heap.size + 1, 2, none⟩ = some (.slice (some ad') m6' c6')) ∧ w2.cell? (ad.add j) = some (.slice X mx cx) ∧ w2.cell? (ad'.add j) = some (.slice X' mx' cx') := ⟨⟨(hb2.cell (World.block_lt_of_cell? _ _ hq1.1.1)).trans hq1.1.1, (hb2.cell (World.block_lt_of_cell? _ _ hq1.1.2)).trans hq1.1.2⟩, (hb2.cell (World.block_lt_of_cell? _ _ hq1.2.1)).trans hq1.2.1, (hb2.cell (World.block_lt_of_cell? _ _ hq1.2.2)).trans hq1.2.2⟩
          have HB3 := Lib.hid (HBV.out.drew.trans (hb2.mono HBV.out.drew.size))
          clear hb2
          (try go_simp)
          refine hK.out _ _ ?_ (fun hHeld' => ?_)
          · (try dsimp only)
            (first | exact hq1 | exact hs2)
          clear hK K hHeld
          have hHeld := hHeld'
          clear hHeld'
          refine wpAnyH_take (i := 11) (v := ?_) rfl (by kernel_rfl) (by kernel_rfl) (by kernel_rfl) (fun _ _ _ h => h) (Or.inl ⟨by rfl, ?_⟩) (by assumption) ?_
          rotate_left
          · intro w hSw
            (try dsimp only at hSw)
            go_simp <;> with_reducible rfl
          try simp only [Act.put, List.getElem_toArray, List.getElem_cons_succ, List.getElem_cons_zero, List.setIfInBounds_toArray, List.set_cons_zero, List.set_cons_succ]
          refine wpAnyH_done (by kernel_rfl) ?_ _
          clear hHeld hs2 hq1
          go_wp2
          go_roundw
          case rel => exact ⟨j + 1, by omega, by go_num, HB3.out⟩
          case measure => simp [RowKit.intOf]; omega
        · obtain rfl : j = m6' := by omega
          go_wp2
          go_ret
          exact ⟨rfl, HST.out.trans (HBV.out.mono (by omega))⟩
end Go.Proofs.YtmepaeahchiglaaGreatDoor

