/-
  layer 43: the program's Get of a project. Conditions: at most 10^9 bytes that can be read.
-/
import Derived.Test.YtmepaeahchiglaaGreatDoorZbaz
import Derived.Test.YtmepaeahchiglaaGreatDoorZbbc
namespace Go.Proofs.YtmepaeahchiglaaGreatDoor
open Go.RowKit Go.Lib

set_option linter.unusedSimpArgs false in
set_option maxRecDepth 20000 in
set_option maxHeartbeats 1000000 in
theorem sEqB_any (A A' : Option Addr) (n n' c c' B : Nat) (a b : List Nat) (w : World) (ha : Reads w B 1 A n (a.map bv)) (hb : Reads w B 1 A' n' (b.map bv)) (hB : B ≤ w.heap.size) (hn : n ≤ maxLen) :
    Calls Tryz.prog 45 #[.slice A n c, .slice A' n' c'] w fun e w' => e = .returned (.bool (decide (a = b))) ∧ Below w.heap.size w w' := by
  unfold maxLen at hn
  have hal : a.length = n := by have := ha.1; simpa using this
  have hbl : b.length = n' := by have := hb.1; simpa using this
  obtain ⟨r, hr⟩ : ∃ r, decide (a = b) = r := ⟨_, rfl⟩
  rw [hr]
  have HA := Lib.hid ha; have HB := Lib.hid hb; have HAL := Lib.hid hal; have HBL := Lib.hid hbl; have HR := Lib.hid hr
  clear ha hb hal hbl hr
  by_cases hnn : n = n'
  · subst hnn
    go_enter Tryz.func45, Tryz.ntmps45
    go_wp2
    go_loopw [13] (fun i wr => ∃ k : Nat, k ≤ n ∧ i = .int .i64 k ∧ a.take k = b.take k ∧ Below w.heap.size w wr) (fun i _ => n - (RowKit.intOf i).toNat)
    case atStart => exact ⟨0, by omega, rfl, rfl, Below.refl _ _⟩
    case round =>
      obtain ⟨k, hk, rfl, heq, hbw⟩ := hrel
      have HEQ := Lib.hid heq; have HBW := Lib.hid hbw
      clear heq hbw
      by_cases hlt : k < n
      · have hka : k < a.length := by rw [HAL.out]; exact hlt
        have hkb : k < b.length := by rw [HBL.out]; exact hlt
        have hkI : (k : Int) < (n : Int) := by omega
        obtain ⟨ad, rfl, had, hcell⟩ := (HA.out.below (HBW.out.mono hB)).2 (by omega)
        obtain ⟨ad', rfl, had', hcell'⟩ := (HB.out.below (HBW.out.mono hB)).2 (by omega)
        have hc0 := hcell k (bv a[k]) (by rw [List.getElem?_map, List.getElem?_eq_getElem hka]; rfl)
        have hc1 := hcell' k (bv b[k]) (by rw [List.getElem?_map, List.getElem?_eq_getElem hkb]; rfl)
        have hT : a.take (k + 1) = b.take (k + 1) ↔ a[k] = b[k] := by
          have e1 := List.take_succ_eq_append_getElem hka
          have e2 := List.take_succ_eq_append_getElem hkb
          rw [e1, e2, HEQ.out]
          exact ⟨fun h => by have := List.append_cancel_left h; simpa using this, fun h => by rw [h]⟩
        have hne : a[k] ≠ b[k] → r = false := fun h => by
          rw [← HR.out, decide_eq_false]
          rintro rfl
          exact h rfl
        generalize a[k] = s at *
        generalize b[k] = t at *
        have HT := Lib.hid hT; have HN := Lib.hid hne
        clear hT hne hcell hcell'
        by_cases h1 : s = t
        · have e1 : ((s : Int) == (t : Int)) = true := by rw [h1]; simp
          have HST := Lib.hid h1
          clear h1
          go_wp2
          go_region
          go_wp2
          go_roundw
          case rel => exact ⟨k + 1, by omega, by go_num, HT.out.2 HST.out, HBW.out.drew⟩
          case measure => simp [RowKit.intOf]; omega
        · have e1 : ((s : Int) == (t : Int)) = false := by rw [beq_eq_false_iff_ne]; omega
          have hr0 := HN.out h1
          subst hr0
          clear h1
          go_wp2
          go_region
          go_wp2
          go_ret
          exact ⟨rfl, HBW.out.drew⟩
      · obtain rfl : k = n := by omega
        have hab : a = b := by
          have h := HEQ.out
          rw [List.take_of_length_le (by rw [HAL.out]; exact Nat.le_refl _), List.take_of_length_le (by rw [HBL.out]; exact Nat.le_refl _)] at h
          exact h
        have hr1 : r = true := by rw [← HR.out, decide_eq_true hab]
        subst hr1
        clear hab hlt
        go_wp2
        go_ret
        exact ⟨rfl, HBW.out⟩
  · have hr0 : r = false := by
      rw [← HR.out, decide_eq_false]
      rintro rfl
      exact hnn (by rw [← HAL.out, ← HBL.out])
    subst hr0
    have hne : ((n : Int) == (n' : Int)) = false := by rw [beq_eq_false_iff_ne]; omega
    clear hnn
    go_enter Tryz.func45, Tryz.ntmps45
    go_wp2
    go_ret
    exact ⟨rfl, Below.refl _ _⟩
/-- Eight cells of a block, stored. -/
abbrev st8 (w : World) (g : Nat) (c0 c1 c2 c3 c4 c5 c6 c7 : Value) : World := (((((((w.setCell ⟨g, 0, none⟩ c0).setCell ⟨g, 1, none⟩ c1).setCell ⟨g, 2, none⟩ c2).setCell ⟨g, 3, none⟩ c3).setCell ⟨g, 4, none⟩ c4).setCell ⟨g, 5, none⟩ c5).setCell ⟨g, 6, none⟩ c6).setCell ⟨g, 7, none⟩ c7
section
variable {w : World} {g : Nat} {t : TypeId} {a0 a1 a2 a3 a4 a5 a6 a7 : Value}
theorem Blk.st8 (h : Blk w g t #[a0, a1, a2, a3, a4, a5, a6, a7]) (c0 c1 c2 c3 c4 c5 c6 c7 : Value) : Blk (st8 w g c0 c1 c2 c3 c4 c5 c6 c7) g t #[c0, c1, c2, c3, c4, c5, c6, c7] := by
  have := (((((((h.set_ 0 c0).set_ 1 c1).set_ 2 c2).set_ 3 c3).set_ 4 c4).set_ 5 c5).set_ 6 c6).set_ 7 c7
  simpa using this
theorem Chg.st8 (w : World) (g : Nat) (c0 c1 c2 c3 c4 c5 c6 c7 : Value) : Chg [g] w (st8 w g c0 c1 c2 c3 c4 c5 c6 c7) := by
  have m : ∀ i : Nat, (⟨g, i, none⟩ : Addr).block ∈ [g] ∨ w.heap.size ≤ (⟨g, i, none⟩ : Addr).block := fun i => .inl (List.mem_singleton_self g)
  exact ((((((((Chg.refl [g] w).setCell (m 0) c0).setCell (m 1) c1).setCell (m 2) c2).setCell (m 3) c3).setCell (m 4) c4).setCell (m 5) c5).setCell (m 6) c6).setCell (m 7) c7
theorem Blk.eight (h : Blk w g t #[a0, a1, a2, a3, a4, a5, a6, a7]) : (w.cell? ⟨g, 0, none⟩ = some a0 ∧ w.cell? ⟨g, 1, none⟩ = some a1 ∧ w.cell? ⟨g, 2, none⟩ = some a2 ∧ w.cell? ⟨g, 3, none⟩ = some a3) ∧ w.cell? ⟨g, 4, none⟩ = some a4 ∧ w.cell? ⟨g, 5, none⟩ = some a5 ∧ w.cell? ⟨g, 6, none⟩ = some a6 ∧ w.cell? ⟨g, 7, none⟩ = some a7 :=
  ⟨⟨h.cell 0, h.cell 1, h.cell 2, h.cell 3⟩, h.cell 4, h.cell 5, h.cell 6, h.cell 7⟩
theorem Blk.free8 (h : Blk w g t #[a0, a1, a2, a3, a4, a5, a6, a7]) : (w.frozen? ⟨g, 0, none⟩ = false ∧ w.frozen? ⟨g, 1, none⟩ = false ∧ w.frozen? ⟨g, 2, none⟩ = false ∧ w.frozen? ⟨g, 3, none⟩ = false) ∧ w.frozen? ⟨g, 4, none⟩ = false ∧ w.frozen? ⟨g, 5, none⟩ = false ∧ w.frozen? ⟨g, 6, none⟩ = false ∧ w.frozen? ⟨g, 7, none⟩ = false :=
  ⟨⟨h.frozen 0, h.frozen 1, h.frozen 2, h.frozen 3⟩, h.frozen 4, h.frozen 5, h.frozen 6, h.frozen 7⟩
end
abbrev ZP : Array Value := #[.slice none 0 0, .slice none 0 0, .slice none 0 0, .slice none 0 0, .slice none 0 0, .slice none 0 0, .slice none 0 0, .slice none 0 0]
theorem noP_cells (w : World) (S : Nat → Prop) : ProjF w S noP [.slice none 0 0, .slice none 0 0, .slice none 0 0, .slice none 0 0, .slice none 0 0, .slice none 0 0, .slice none 0 0, .slice none 0 0] :=
  ⟨_, _, _, _, _, _, _, _, rfl, slF_nil _ _ _ _, slF_nil _ _ _ _, slF_nil _ _ _ _, slF_nil _ _ _ _, slF_nil _ _ _ _, slF_nil _ _ _ _, slF_nil _ _ _ _, slF_nil _ _ _ _⟩
/-- What Get returns: the project, the error. -/
def GivesP (w : World) (x : Pj × Int) (e : Ending) (w' : World) : Prop := ∃ cs, e = .returned (.tuple #[.agg cs.toArray, .int .i64 x.2]) ∧ ProjF w' (NewS w w') x.1 cs ∧ Below w.heap.size w w'
/-- Nothing, with an error. -/
theorem givesP_no {w W : World} (hb : Below w.heap.size w W) (hk : Blk W w.heap.size 33 ZP) (x : Int) : Blk (st8 W w.heap.size (.slice none 0 0) (.slice none 0 0) (.slice none 0 0) (.slice none 0 0) (.slice none 0 0) (.slice none 0 0) (.slice none 0 0) (.slice none 0 0)) w.heap.size 33 ZP ∧ GivesP w (noP, x) (.returned (.tuple #[.agg ZP, .int .i64 x])) (st8 W w.heap.size (.slice none 0 0) (.slice none 0 0) (.slice none 0 0) (.slice none 0 0) (.slice none 0 0) (.slice none 0 0) (.slice none 0 0) (.slice none 0 0)) :=
  ⟨hk.st8 _ _ _ _ _ _ _ _, _, rfl, noP_cells _ _, hb.trans ((Chg.st8 _ _ _ _ _ _ _ _ _ _).below (by simp) (hb.size))⟩
theorem beq_strB {a b : List Nat} (ha : ∀ c ∈ a, c < 256) (hb : ∀ c ∈ b, c < 256) : ((strB a).toList == (strB b).toList) = decide (a = b) := by
  rw [beq_bs]
  refine decide_eq_decide.2 ⟨fun e => ?_, fun e => by rw [e]⟩
  have e1 : bs (strB a) = a.map UInt8.ofNat := rfl
  have e2 : bs (strB b) = b.map UInt8.ofNat := rfl
  rw [e1, e2] at e
  have := congrArg (List.map UInt8.toNat) e
  rwa [u8_nat ha, u8_nat hb] at this
set_option linter.unusedSimpArgs false in
set_option linter.unusedVariables false in
set_option maxRecDepth 20000 in
set_option maxHeartbeats 4000000 in
theorem getP_any (w : World) (A : Option Addr) (n c B : Nat) (bs : List Nat) (hr : Reads w B 1 A n (bs.map bv)) (hB : B ≤ w.heap.size) (hn : n ≤ c) (hc : c ≤ maxLen) (hs : n ≤ 1000000000) (hb : ∀ b ∈ bs, b < 256) :
    Calls Tryz.prog 15 #[.slice A n c] w (GivesP w (getP bs)) := by
  have hbl : bs.length = n := by have := hr.1; simpa using this
  have hb0 := (Below.refl w.heap.size w).alloc (Nat.le_refl _) (.cells ZP 33)
  have hk0 := Blk.new w 33 ZP
  obtain ⟨W0, hW0⟩ : ∃ W, w.alloc (.cells ZP 33) = W := ⟨_, rfl⟩
  rw [hW0] at hb0 hk0
  have hr0 := hr.below (hb0.mono hB)
  have hsz0 : w.heap.size < W0.heap.size := hk0.lt
  obtain ⟨o, ho⟩ : ∃ o, getP bs = o := ⟨_, rfl⟩
  rw [ho]
  have HO := Lib.hid ho
  clear ho
  unfold maxLen at hc
  have HW0 := Lib.hid hW0; have HB0 := Lib.hid hb0; have HK0 := Lib.hid hk0; have HR0 := Lib.hid hr0; have HBS := Lib.hid hb; have HBL := Lib.hid hbl
  have HRW := Lib.hid hr
  clear hW0 hb0 hk0 hr0 hb hr hbl
  by_cases h8 : n < 8
  · obtain rfl : o = (noP, 10) := by rw [← HO.out, getP_short (by rw [HBL.out]; exact h8)]
    have hI : (n : Int) - 4 < 4 := by omega
    obtain ⟨⟨z0, z1, z2, z3⟩, z4, z5, z6, z7⟩ := HK0.out.eight
    obtain ⟨⟨q0, q1, q2, q3⟩, q4, q5, q6, q7⟩ := HK0.out.free8
    have hfin := givesP_no HB0.out HK0.out 10
    have HFIN := Lib.hid hfin
    clear hfin h8
    go_enter Tryz.func15, Tryz.ntmps15
    go_wp2_with (rw [HW0.out])
    obtain ⟨⟨d0, d1, d2, d3⟩, d4, d5, d6, d7⟩ := HFIN.out.1.eight
    exact bodyPost_ret (v := .tuple #[.agg ZP, .int .i64 10]) (by simp [results, Tryz.results15, go_sem, d0, d1, d2, d3, d4, d5, d6, d7]) rfl HFIN.out.2
  · have hI : ¬ (n : Int) - 4 < 4 := by omega
    obtain ⟨A1, p1, p2⟩ := cut_hi A n c 4 (by omega) hn
    have hp1 : ∀ W : World, (Instr.slice 36 (.slice A n c) none (some (.int .i64 4)) none).run Tryz.prog W = .ok (.slice A1 4 c) W := p1
    have hm4 : ∀ x ∈ bs.take 4, x < 256 := fun x hx => HBS.out x (List.mem_of_mem_take hx)
    have hcv : (convert 36 9 (.slice A1 4 c)).run Tryz.prog W0 = .ok (.string (strB (bs.take 4))) W0 := reads_conv (by have := p2 W0 B _ HR0.out; rwa [← List.map_take] at this) hm4
    have hbeq := beq_strB hm4 (b := magB) (by unfold magB; decide)
    rw [show (strB magB).toList = [97, 98, 108, 49] by rw [Lib.toList_data]; rfl] at hbeq
    generalize strB (bs.take 4) = s4 at *
    by_cases hmg : bs.take 4 = magB
    case neg =>
      obtain rfl : o = (noP, 10) := by rw [← HO.out, getP_mag hmg]
      rw [decide_eq_false hmg] at hbeq
      obtain ⟨⟨z0, z1, z2, z3⟩, z4, z5, z6, z7⟩ := HK0.out.eight
      obtain ⟨⟨q0, q1, q2, q3⟩, q4, q5, q6, q7⟩ := HK0.out.free8
      have hfin := givesP_no HB0.out HK0.out 10
      have HFIN := Lib.hid hfin
      clear hfin h8 hmg hm4 p1 p2
      go_enter Tryz.func15, Tryz.ntmps15
      go_wp2_with (rw [HW0.out])
      obtain ⟨⟨d0, d1, d2, d3⟩, d4, d5, d6, d7⟩ := HFIN.out.1.eight
      exact bodyPost_ret (v := .tuple #[.agg ZP, .int .i64 (10)]) (by simp [results, Tryz.results15, go_sem, d0, d1, d2, d3, d4, d5, d6, d7]) rfl HFIN.out.2
    have hgs := @getP_sum bs (by rw [HBL.out]; exact h8) hmg
    have hgm := @getP_main bs (by rw [HBL.out]; exact h8) hmg
    rw [HBL.out, HO.out] at hgs hgm
    rw [decide_eq_true hmg] at hbeq
    obtain ⟨A2, t1, t2⟩ := cut_at A n c (n - 4) (by omega) hn
    obtain ⟨A3, u1, u2⟩ := cut_hi A n c (n - 4) (by omega) hn
    obtain ⟨A5, y1, y2⟩ := cut_lh A n c 4 (n - 4) (by omega) (by omega) hn
    have e4 : ((n - 4 : Nat) : Int) = (n : Int) - 4 := by omega
    rw [e4] at t1 u1
    have hy1 : ∀ W : World, (Instr.slice 36 (.slice A n c) (some (.int .i64 4)) (some (.int .i64 ((n : Int) - 4))) none).run Tryz.prog W = .ok (.slice A5 (n - 4 - 4) (c - 4)) W := by rw [← e4]; exact y1
    rw [show n - (n - 4) = 4 by omega] at t1 t2
    have hbt : ∀ x ∈ bs.take (n - 4), x < 256 := fun x hx => HBS.out x (List.mem_of_mem_take hx)
    have hbd : ∀ x ∈ bs.drop (n - 4), x < 256 := fun x hx => HBS.out x (List.mem_of_mem_drop hx)
    have hr3 := u2 W0.drew B _ (show Reads W0.drew B 1 A n (bs.map bv) from HR0.out)
    rw [← List.map_take] at hr3
    have hsum := sum_any A3 (n - 4) c ((bs.take (n - 4)).map UInt8.ofNat) W0.drew (readB_of (hr3.more (by show B ≤ W0.heap.size; omega)) hbt) (by unfold maxLen; omega)
    rw [u8_nat hbt] at hsum
    have hslt := sumB_lt hbt
    obtain ⟨sm, hsm⟩ : ∃ x, sumB (bs.take (n - 4)) = x := ⟨_, rfl⟩
    rw [hsm] at hsum hslt hgs hgm
    have HGS := Lib.hid hgs; have HGM := Lib.hid hgm
    clear hgs hgm
    have hfour := four_any sm hslt W0.drew
    have hf4 : ∀ x ∈ fourB sm, x < 256 := by
      intro x hx
      unfold fourB at hx
      simp only [List.mem_cons, List.not_mem_nil, or_false] at hx
      rcases hx with rfl | rfl | rfl | rfl <;> omega
    have hp' : (bs.take (n - 4)).drop 4 = (bs.drop 4).take (n - 4 - 4) := by rw [List.drop_take]
    have HSUM := Lib.hid hsum; have HFOUR := Lib.hid hfour; have T2 := Lib.hid t2; have Y2 := Lib.hid y2; have HPP := Lib.hid hp'
    obtain ⟨rs, hrs⟩ : ∃ x, decide (bs.drop (n - 4) = fourB sm) = x := ⟨_, rfl⟩
    have HRS := Lib.hid hrs
    have hE : ∀ (W : World) (A4 : Option Addr) (c4 : Nat), Below w.heap.size w W → Reads W W.heap.size 1 A4 4 ((fourB sm).map bv) → Calls Tryz.prog 45 #[.slice A2 4 (c - (n - 4)), .slice A4 4 c4] W fun e w' => e = .returned (.bool rs) ∧ Below W.heap.size W w' := fun W A4 c4 hW h4 => by
      have h5 := T2.out W W.heap.size _ ((HRW.out.below (hW.mono hB)).more (by have := hW.size; omega))
      rw [← List.map_drop] at h5
      have h6 := sEqB_any A2 A4 4 4 (c - (n - 4)) c4 W.heap.size (bs.drop (n - 4)) (fourB sm) W h5 h4 (Nat.le_refl _) (by unfold maxLen; omega)
      rwa [hrs] at h6
    have HE := Lib.hid hE
    clear hsum hfour t2 y1 y2 hp' hrs hE hr3 u2 p1 p2 hm4 hsm h8 hmg e4 hslt
    go_enter Tryz.func15, Tryz.ntmps15
    go_wp2_with (rw [HW0.out])
    refine wp_region_held_drew (S := (fun _ => True)) (by kernel_rfl) ?_ (fun hHeld => ?_)
    · (try dsimp only)
      all_goals trivial
    refine wpAnyH_take (i := 0) (v := ?_) rfl (by kernel_rfl) (by kernel_rfl) (by kernel_rfl) (fun _ _ _ h => h) (Or.inl ⟨by rfl, ?_⟩) (by assumption) ?_
    rotate_left
    · intro w hSw
      (try dsimp only at hSw)
      go_simp <;> with_reducible rfl
    try simp only [Act.put, List.getElem_toArray, List.getElem_cons_succ, List.getElem_cons_zero, List.setIfInBounds_toArray, List.set_cons_zero, List.set_cons_succ]
    refine wpAnyH_take (i := 1) (v := ?_) rfl (by kernel_rfl) (by kernel_rfl) (by kernel_rfl) (fun _ _ _ h => h) (Or.inl ⟨by rfl, ?_⟩) (by assumption) ?_
    rotate_left
    · intro w hSw
      (try dsimp only at hSw)
      go_simp <;> with_reducible rfl
    try simp only [Act.put, List.getElem_toArray, List.getElem_cons_succ, List.getElem_cons_zero, List.setIfInBounds_toArray, List.set_cons_zero, List.set_cons_succ]
    refine wpAnyH_take (i := 2) (v := ?_) rfl (by kernel_rfl) (by kernel_rfl) (by kernel_rfl) (fun _ _ _ h => h) (Or.inl ⟨by rfl, ?_⟩) (by assumption) ?_
    rotate_left
    · intro w hSw
      (try dsimp only at hSw)
      go_simp <;> with_reducible rfl
    try simp only [Act.put, List.getElem_toArray, List.getElem_cons_succ, List.getElem_cons_zero, List.setIfInBounds_toArray, List.set_cons_zero, List.set_cons_succ]
    refine wpAnyH_take (i := 3) (v := ?_) rfl (by kernel_rfl) (by kernel_rfl) (by kernel_rfl) (fun _ _ _ h => h) (Or.inl ⟨by rfl, ?_⟩) (by assumption) ?_
    rotate_left
    · intro w hSw
      (try dsimp only at hSw)
      go_simp <;> with_reducible rfl
    try simp only [Act.put, List.getElem_toArray, List.getElem_cons_succ, List.getElem_cons_zero, List.setIfInBounds_toArray, List.set_cons_zero, List.set_cons_succ]
    refine wpAnyH_take (i := 4) (v := ?_) rfl (by kernel_rfl) (by kernel_rfl) (by kernel_rfl) (fun _ _ _ h => h) (Or.inl ⟨by rfl, ?_⟩) (by assumption) ?_
    rotate_left
    · intro w hSw
      (try dsimp only at hSw)
      go_simp <;> with_reducible rfl
    try simp only [Act.put, List.getElem_toArray, List.getElem_cons_succ, List.getElem_cons_zero, List.setIfInBounds_toArray, List.set_cons_zero, List.set_cons_succ]
    refine wpAnyH_take (i := 5) (v := ?_) rfl (by kernel_rfl) (by kernel_rfl) (by kernel_rfl) (fun _ _ _ h => h) (Or.inl ⟨by rfl, ?_⟩) (by assumption) ?_
    rotate_left
    · intro w hSw
      (try dsimp only at hSw)
      go_simp <;> with_reducible rfl
    try simp only [Act.put, List.getElem_toArray, List.getElem_cons_succ, List.getElem_cons_zero, List.setIfInBounds_toArray, List.set_cons_zero, List.set_cons_succ]
    refine wpAnyH_ready (rs := [6]) (by kernel_rfl) (by simp) ?_
    refine AllReadyH.cons rfl (fun K hK => ?_) AllReadyH.nil
    go_simp
    (try go_wp2_with fail)
    refine HSUM.out.mono ?_
    rintro e w1 ⟨rfl, rfl⟩
    (try go_simp)
    refine hK.out _ _ ?_ (fun hHeld' => ?_)
    · (try dsimp only)
      all_goals trivial
    clear hK K hHeld
    have hHeld := hHeld'
    clear hHeld'
    refine wpAnyH_ready (rs := [7]) (by kernel_rfl) (by simp) ?_
    refine AllReadyH.cons rfl (fun K hK => ?_) AllReadyH.nil
    go_simp
    (try go_wp2_with fail)
    refine HFOUR.out.mono ?_
    rintro e w2 ⟨v, rfl, ho4, hb2⟩
    replace ho4 : w2.ownsRow W0.drew.heap.size 5 1 v 4 ((fourB sm).map bv) := ho4
    obtain ⟨A4, c4, rfl, h41, h42⟩ := ownsRow_form ho4
    have hb2' : Below w.heap.size w w2 := HB0.out.drew.trans (hb2.mono (by show w.heap.size ≤ W0.heap.size; omega))
    have hcE := HE.out w2 A4 c4 hb2' (Reads.of_own ho4)
    have HK2 := Lib.hid ((show Blk W0.drew w.heap.size 33 ZP from HK0.out).below hb2 (show w.heap.size < W0.drew.heap.size from hsz0))
    have HB2 := Lib.hid hb2'; have HCE := Lib.hid hcE
    clear ho4 hb2 hb2' hcE h41 h42
    (try go_simp)
    refine hK.out _ _ ?_ (fun hHeld' => ?_)
    · (try dsimp only)
      all_goals trivial
    clear hK K hHeld
    have hHeld := hHeld'
    clear hHeld'
    refine wpAnyH_ready (rs := [8]) (by kernel_rfl) (by simp) ?_
    refine AllReadyH.cons rfl (fun K hK => ?_) AllReadyH.nil
    go_simp
    (try go_wp2_with fail)
    refine HCE.out.mono ?_
    rintro e w3 ⟨rfl, hb3⟩
    have HB3 := Lib.hid (HB2.out.trans (hb3.mono HB2.out.size)); have HK3 := Lib.hid (HK2.out.below hb3 HK2.out.lt)
    clear hb3
    (try go_simp)
    refine hK.out _ _ ?_ (fun hHeld' => ?_)
    · (try dsimp only)
      all_goals trivial
    clear hK K hHeld
    have hHeld := hHeld'
    clear hHeld'
    refine wpAnyH_take (i := 9) (v := ?_) rfl (by kernel_rfl) (by kernel_rfl) (by kernel_rfl) (fun _ _ _ h => h) (Or.inl ⟨by rfl, ?_⟩) (by assumption) ?_
    rotate_left
    · intro w hSw
      (try dsimp only at hSw)
      go_simp <;> with_reducible rfl
    try simp only [Act.put, List.getElem_toArray, List.getElem_cons_succ, List.getElem_cons_zero, List.setIfInBounds_toArray, List.set_cons_zero, List.set_cons_succ]
    refine wpAnyH_done (by kernel_rfl) ?_ _
    cases rs with
    | false =>
      have hne : bs.drop (n - 4) ≠ fourB sm := fun h => by
        have := HRS.out
        rw [decide_eq_true h] at this
        cases this
      obtain rfl : o = (noP, 13) := HGS.out hne
      obtain ⟨⟨z0, z1, z2, z3⟩, z4, z5, z6, z7⟩ := HK3.out.eight
      obtain ⟨⟨q0, q1, q2, q3⟩, q4, q5, q6, q7⟩ := HK3.out.free8
      have hfin := givesP_no HB3.out HK3.out 13
      have HFIN := Lib.hid hfin
      clear hfin hne
      go_wp2
      obtain ⟨⟨d0, d1, d2, d3⟩, d4, d5, d6, d7⟩ := HFIN.out.1.eight
      exact bodyPost_ret (v := .tuple #[.agg ZP, .int .i64 (13)]) (by simp [results, Tryz.results15, go_sem, d0, d1, d2, d3, d4, d5, d6, d7]) rfl HFIN.out.2
    | true =>
      have heq : bs.drop (n - 4) = fourB sm := of_decide_eq_true HRS.out
      have hoo := HGM.out heq
      have hr5 := Y2.out w3 B _ (HRW.out.below (HB3.out.mono hB))
      rw [← List.map_drop, ← List.map_take, ← HPP.out] at hr5
      have hb5 : ∀ x ∈ (bs.take (n - 4)).drop 4, x < 256 := fun x hx => hbt x (List.mem_of_mem_drop hx)
      have hl5 : ((bs.take (n - 4)).drop 4).length ≤ 1000000000 := by rw [List.length_drop, List.length_take]; omega
      have hrd := readP_any w3 A5 (n - 4 - 4) (c - 4) B _ hr5 (by have := HB3.out.size; omega) (by omega) (by unfold maxLen; omega) (by omega) hb5
      generalize (bs.take (n - 4)).drop 4 = md at *
      have HB5 := Lib.hid hb5
      clear hr5 heq hb5
      clear HGS HGM
      cases hpr : projR md with
      | none =>
        rw [hpr] at hrd hoo
        obtain rfl : o = (noP, 10) := hoo
        obtain ⟨B1, m1, b1, B2, m2, b2, B3, m3, b3, B4, m4, b4, B5, m5, b5, B6, m6, b6, B7, m7, b7, B8, m8, b8, hz⟩ : ∃ (B1 : Option Addr) (m1 b1 : Nat) (B2 : Option Addr) (m2 b2 : Nat) (B3 : Option Addr) (m3 b3 : Nat) (B4 : Option Addr) (m4 b4 : Nat) (B5 : Option Addr) (m5 b5 : Nat) (B6 : Option Addr) (m6 b6 : Nat) (B7 : Option Addr) (m7 b7 : Nat) (B8 : Option Addr) (m8 b8 : Nat), zeroPj.toArray = #[.slice B1 m1 b1, .slice B2 m2 b2, .slice B3 m3 b3, .slice B4 m4 b4, .slice B5 m5 b5, .slice B6 m6 b6, .slice B7 m7 b7, .slice B8 m8 b8] := ⟨none, 0, 0, none, 0, 0, none, 0, 0, none, 0, 0, none, 0, 0, none, 0, 0, none, 0, 0, none, 0, 0, rfl⟩
        have hrd2 : Calls _ _ _ _ fun e w' => Below w3.heap.size w3 w' ∧ e = .returned (.tuple #[.agg zeroPj.toArray, .int .i64 0, .bool false]) := hrd
        rw [hz] at hrd2
        have HRD := Lib.hid hrd2
        clear hz hrd2
        clear hrd hpr
        go_wp2_with fail
        refine HRD.out.mono ?_
        rintro e w4 ⟨hb4, rfl⟩
        have hb4' := HB3.out.trans (hb4.mono HB3.out.size)
        have hk4 := HK3.out.below hb4 HK3.out.lt
        obtain ⟨W5, hW5⟩ : ∃ W, w4.alloc (.cells #[.slice B1 m1 b1, .slice B2 m2 b2, .slice B3 m3 b3, .slice B4 m4 b4, .slice B5 m5 b5, .slice B6 m6 b6, .slice B7 m7 b7, .slice B8 m8 b8] 33) = W := ⟨_, rfl⟩
        have hb5 := hb4'.alloc hb4'.size (.cells #[.slice B1 m1 b1, .slice B2 m2 b2, .slice B3 m3 b3, .slice B4 m4 b4, .slice B5 m5 b5, .slice B6 m6 b6, .slice B7 m7 b7, .slice B8 m8 b8] 33)
        have hk5 := hk4.alloc (.cells #[.slice B1 m1 b1, .slice B2 m2 b2, .slice B3 m3 b3, .slice B4 m4 b4, .slice B5 m5 b5, .slice B6 m6 b6, .slice B7 m7 b7, .slice B8 m8 b8] 33)
        rw [hW5] at hb5 hk5
        have HW5 := Lib.hid hW5; have HB5' := Lib.hid hb5; have HK5 := Lib.hid hk5
        clear hb4 hb4' hk4 hb5 hk5 hW5
        obtain ⟨⟨z0, z1, z2, z3⟩, z4, z5, z6, z7⟩ := HK5.out.eight
        obtain ⟨⟨q0, q1, q2, q3⟩, q4, q5, q6, q7⟩ := HK5.out.free8
        have hfin := givesP_no HB5'.out HK5.out 10
        have HFIN := Lib.hid hfin
        clear hfin
        go_wp2_with (rw [HW5.out])
        obtain ⟨⟨d0, d1, d2, d3⟩, d4, d5, d6, d7⟩ := HFIN.out.1.eight
        exact bodyPost_ret (v := .tuple #[.agg ZP, .int .i64 (10)]) (by simp [results, Tryz.results15, go_sem, d0, d1, d2, d3, d4, d5, d6, d7]) rfl HFIN.out.2
      | some q =>
        obtain ⟨p, r⟩ := q
        rw [hpr] at hrd hoo
        have hsz := sure_proj md p r HB5.out hpr
        have HRD := Lib.hid hrd
        clear hrd hpr
        cases r with
        | cons y r =>
          obtain rfl : o = (noP, 10) := hoo
          have hgt : (0 : Int) < ((y :: r).length : Int) := by simp only [List.length_cons]; omega
          have hlI := Lib.hid hsz
          clear hsz
          generalize (y :: r).length = lr at *
          go_wp2_with fail
          refine HRD.out.mono ?_
          rintro e w4 ⟨hb4, cs, rfl, hpf⟩
          have hb4' := HB3.out.trans (hb4.mono HB3.out.size)
          have hk4 := HK3.out.below hb4 HK3.out.lt
          obtain ⟨v1, v2, v3, v4, v5, v6, v7, v8, rfl, x1, x2, x3, x4, x5, x6, x7, x8⟩ := hpf
          obtain ⟨B1, b1, rfl⟩ := x1.form; obtain ⟨B2, b2, rfl⟩ := x2.form; obtain ⟨B3, b3, rfl⟩ := x3.form; obtain ⟨B4, b4, rfl⟩ := x4.form; obtain ⟨B5, b5, rfl⟩ := x5.form; obtain ⟨B6, b6, rfl⟩ := x6.form; obtain ⟨B7, b7, rfl⟩ := x7.form; obtain ⟨B8, b8, rfl⟩ := x8.form
          obtain ⟨W5, hW5⟩ : ∃ W, w4.alloc (.cells #[.slice B1 p.feats.length b1, .slice B2 p.sounds.length b2, .slice B3 p.marks.length b3, .slice B4 p.tree.length b4, .slice B5 p.laws.length b5, .slice B6 p.on.length b6, .slice B7 p.protos.length b7, .slice B8 p.entries.length b8] 33) = W := ⟨_, rfl⟩
          have hb5 := hb4'.alloc hb4'.size (.cells #[.slice B1 p.feats.length b1, .slice B2 p.sounds.length b2, .slice B3 p.marks.length b3, .slice B4 p.tree.length b4, .slice B5 p.laws.length b5, .slice B6 p.on.length b6, .slice B7 p.protos.length b7, .slice B8 p.entries.length b8] 33)
          have hk5 := hk4.alloc (.cells #[.slice B1 p.feats.length b1, .slice B2 p.sounds.length b2, .slice B3 p.marks.length b3, .slice B4 p.tree.length b4, .slice B5 p.laws.length b5, .slice B6 p.on.length b6, .slice B7 p.protos.length b7, .slice B8 p.entries.length b8] 33)
          rw [hW5] at hb5 hk5
          have HW5 := Lib.hid hW5; have HB5' := Lib.hid hb5; have HK5 := Lib.hid hk5
          clear hb4 hb4' hk4 hb5 hk5 hW5 x1 x2 x3 x4 x5 x6 x7 x8
          obtain ⟨⟨z0, z1, z2, z3⟩, z4, z5, z6, z7⟩ := HK5.out.eight
          obtain ⟨⟨q0, q1, q2, q3⟩, q4, q5, q6, q7⟩ := HK5.out.free8
          have hfin := givesP_no HB5'.out HK5.out 10
          have HFIN := Lib.hid hfin
          clear hfin
          go_wp2_with (rw [HW5.out])
          obtain ⟨⟨d0, d1, d2, d3⟩, d4, d5, d6, d7⟩ := HFIN.out.1.eight
          exact bodyPost_ret (v := .tuple #[.agg ZP, .int .i64 (10)]) (by simp [results, Tryz.results15, go_sem, d0, d1, d2, d3, d4, d5, d6, d7]) rfl HFIN.out.2
        | nil =>
          have hrp : PjRd p := hsz.1.1.rd hl5
          have HRP := Lib.hid hrp
          clear hsz hrp
          go_wp2_with fail
          refine HRD.out.mono ?_
          rintro e w4 ⟨hb4, cs, rfl, hpf⟩
          have hb4' := HB3.out.trans (hb4.mono HB3.out.size)
          have hk4 := HK3.out.below hb4 HK3.out.lt
          have hpc := ProjF.toC (B := w4.heap.size) (fun b hb => hb.2) hpf
          have HPF := Lib.hid hpf
          obtain ⟨v1, v2, v3, v4, v5, v6, v7, v8, rfl, x1, x2, x3, x4, x5, x6, x7, x8⟩ := hpf
          obtain ⟨B1, b1, rfl⟩ := x1.form; obtain ⟨B2, b2, rfl⟩ := x2.form; obtain ⟨B3, b3, rfl⟩ := x3.form; obtain ⟨B4, b4, rfl⟩ := x4.form; obtain ⟨B5, b5, rfl⟩ := x5.form; obtain ⟨B6, b6, rfl⟩ := x6.form; obtain ⟨B7, b7, rfl⟩ := x7.form; obtain ⟨B8, b8, rfl⟩ := x8.form
          clear x1 x2 x3 x4 x5 x6 x7 x8
          obtain ⟨W5, hW5⟩ : ∃ W, w4.alloc (.cells #[.slice B1 p.feats.length b1, .slice B2 p.sounds.length b2, .slice B3 p.marks.length b3, .slice B4 p.tree.length b4, .slice B5 p.laws.length b5, .slice B6 p.on.length b6, .slice B7 p.protos.length b7, .slice B8 p.entries.length b8] 33) = W := ⟨_, rfl⟩
          have hb5 := hb4'.alloc hb4'.size (.cells #[.slice B1 p.feats.length b1, .slice B2 p.sounds.length b2, .slice B3 p.marks.length b3, .slice B4 p.tree.length b4, .slice B5 p.laws.length b5, .slice B6 p.on.length b6, .slice B7 p.protos.length b7, .slice B8 p.entries.length b8] 33)
          have hk5 := hk4.alloc (.cells #[.slice B1 p.feats.length b1, .slice B2 p.sounds.length b2, .slice B3 p.marks.length b3, .slice B4 p.tree.length b4, .slice B5 p.laws.length b5, .slice B6 p.on.length b6, .slice B7 p.protos.length b7, .slice B8 p.entries.length b8] 33)
          have hx5 := Blk.new w4 33 #[.slice B1 p.feats.length b1, .slice B2 p.sounds.length b2, .slice B3 p.marks.length b3, .slice B4 p.tree.length b4, .slice B5 p.laws.length b5, .slice B6 p.on.length b6, .slice B7 p.protos.length b7, .slice B8 p.entries.length b8]
          have hbw := (Below.refl w4.heap.size w4).alloc (Nat.le_refl _) (.cells #[.slice B1 p.feats.length b1, .slice B2 p.sounds.length b2, .slice B3 p.marks.length b3, .slice B4 p.tree.length b4, .slice B5 p.laws.length b5, .slice B6 p.on.length b6, .slice B7 p.protos.length b7, .slice B8 p.entries.length b8] 33)
          rw [hW5] at hb5 hk5 hx5 hbw
          have hck := check_any W5 w4.heap.size p _ (ProjC.keep (fun q hq => hbw.cell (p := q) hq) hpc) hbw.size HRP.out
          obtain ⟨x, hx⟩ : ∃ x, projE p = x := ⟨_, rfl⟩
          rw [hx] at hck
          have hoo' : o = if x = 0 then (p, 0) else (noP, x) := by rw [hoo]; show (if projE p = 0 then (p, 0) else (noP, projE p)) = _; rw [hx]
          have HCK := Lib.hid hck; have HW5 := Lib.hid hW5; have HB5' := Lib.hid hb5; have HK5 := Lib.hid hk5; have HX5 := Lib.hid hx5; have HBW := Lib.hid hbw; have HOO := Lib.hid hoo'
          have k0 := hx5.eight
          obtain ⟨⟨k0, k1, k2, k3⟩, k4, k5, k6, k7⟩ := k0
          have hsz4 : W0.heap.size ≤ W0.heap.size := Nat.le_refl _
          clear hb4 hb4' hk4 hb5 hk5 hW5 hpc hx5 hbw hck hx hoo hoo' hsz4
          go_wp2_with (rw [HW5.out])
          refine HCK.out.mono ?_
          rintro e w6 ⟨rfl, hb6⟩
          have hb6' := HB5'.out.trans (hb6.mono HB5'.out.size)
          have hk6 := HK5.out.below hb6 HK5.out.lt
          have HB6 := Lib.hid hb6'; have HK6 := Lib.hid hk6
          by_cases h0 : x = 0
          · obtain rfl : o = (p, 0) := by rw [HOO.out, if_pos h0]
            have hx0 : (x != (0 : Int)) = false := by rw [h0]; rfl
            have hx6 := HX5.out.below hb6 (by have := HX5.out.lt; exact this)
            obtain ⟨⟨m0, m1, m2, m3⟩, m4, m5, m6, m7⟩ := hx6.eight
            obtain ⟨⟨z0, z1, z2, z3⟩, z4, z5, z6, z7⟩ := HK6.out.eight
            obtain ⟨⟨q0, q1, q2, q3⟩, q4, q5, q6, q7⟩ := HK6.out.free8
            have hs8 := HK6.out.st8 (.slice B1 p.feats.length b1) (.slice B2 p.sounds.length b2) (.slice B3 p.marks.length b3) (.slice B4 p.tree.length b4) (.slice B5 p.laws.length b5) (.slice B6 p.on.length b6) (.slice B7 p.protos.length b7) (.slice B8 p.entries.length b8)
            have hc8 := Chg.st8 w6 w.heap.size (.slice B1 p.feats.length b1) (.slice B2 p.sounds.length b2) (.slice B3 p.marks.length b3) (.slice B4 p.tree.length b4) (.slice B5 p.laws.length b5) (.slice B6 p.on.length b6) (.slice B7 p.protos.length b7) (.slice B8 p.entries.length b8)
            have hszc := hc8.size
            have hszw : w4.heap.size ≤ w6.heap.size := Nat.le_trans HBW.out.size hb6.size
            have hsz3 := HB3.out.size
            have hpf8 : ProjF (st8 w6 w.heap.size (.slice B1 p.feats.length b1) (.slice B2 p.sounds.length b2) (.slice B3 p.marks.length b3) (.slice B4 p.tree.length b4) (.slice B5 p.laws.length b5) (.slice B6 p.on.length b6) (.slice B7 p.protos.length b7) (.slice B8 p.entries.length b8)) (NewS w (st8 w6 w.heap.size (.slice B1 p.feats.length b1) (.slice B2 p.sounds.length b2) (.slice B3 p.marks.length b3) (.slice B4 p.tree.length b4) (.slice B5 p.laws.length b5) (.slice B6 p.on.length b6) (.slice B7 p.protos.length b7) (.slice B8 p.entries.length b8))) p _ :=
              ProjF.keep (S := fun b => w3.heap.size ≤ b ∧ b < w4.heap.size) (fun b hb => ⟨by omega, by omega⟩) (fun q hq => by
                have e1 := HBW.out.cell (p := q) hq.2
                have e2 := hb6.cell (p := q) (Nat.lt_of_lt_of_le hq.2 HBW.out.size)
                rw [← e1, ← e2]
                unfold World.cell?
                rw [hc8.block q.block (by have := hq.2; omega) (by have := HK3.out.lt; have := hq.1; simp only [List.mem_singleton]; omega)]) HPF.out
            have hfin : GivesP w (p, 0) (.returned (.tuple #[.agg #[.slice B1 p.feats.length b1, .slice B2 p.sounds.length b2, .slice B3 p.marks.length b3, .slice B4 p.tree.length b4, .slice B5 p.laws.length b5, .slice B6 p.on.length b6, .slice B7 p.protos.length b7, .slice B8 p.entries.length b8], .int .i64 0])) (st8 w6 w.heap.size (.slice B1 p.feats.length b1) (.slice B2 p.sounds.length b2) (.slice B3 p.marks.length b3) (.slice B4 p.tree.length b4) (.slice B5 p.laws.length b5) (.slice B6 p.on.length b6) (.slice B7 p.protos.length b7) (.slice B8 p.entries.length b8)) :=
              ⟨_, rfl, hpf8, hb6'.trans (hc8.below (by simp) (hb6'.size))⟩
            have HS8 := Lib.hid hs8; have HFIN := Lib.hid hfin
            clear hs8 hc8 hszc hszw hsz3 hpf8 hfin hx6 hb6 hb6' hk6 h0
            go_wp2
            obtain ⟨⟨d0, d1, d2, d3⟩, d4, d5, d6, d7⟩ := HS8.out.eight
            exact bodyPost_ret (by simp [results, Tryz.results15, go_sem, d0, d1, d2, d3, d4, d5, d6, d7]) rfl HFIN.out
          · obtain rfl : o = (noP, x) := by rw [HOO.out, if_neg h0]
            have hx0 : (x != (0 : Int)) = true := by rw [bne_iff_ne]; exact h0
            obtain ⟨⟨z0, z1, z2, z3⟩, z4, z5, z6, z7⟩ := HK6.out.eight
            obtain ⟨⟨q0, q1, q2, q3⟩, q4, q5, q6, q7⟩ := HK6.out.free8
            have hfin := givesP_no HB6.out HK6.out x
            have HFIN := Lib.hid hfin
            clear hfin hb6 hb6' hk6 h0
            go_wp2
            obtain ⟨⟨d0, d1, d2, d3⟩, d4, d5, d6, d7⟩ := HFIN.out.1.eight
            exact bodyPost_ret (v := .tuple #[.agg ZP, .int .i64 x]) (by simp [results, Tryz.results15, go_sem, d0, d1, d2, d3, d4, d5, d6, d7]) rfl HFIN.out.2
end Go.Proofs.YtmepaeahchiglaaGreatDoor

