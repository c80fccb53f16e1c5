/-
 layer 43: the program's Get of a project. Conditions: at most 10^9 bytes that can be read.
-/
import Derived.Test.YtmepaeahchiglaaGreatDoorZdbe
set_option maxRecDepth 20000
set_option maxHeartbeats 4000000
set_option linter.unusedSimpArgs false
set_option linter.unusedVariables false
namespace Go.Proofs.YtmepaeahchiglaaGreatDoor
open Go.RowKit Go.Lib
theorem I4 (A A' : Option Addr) (n n' c c' B : Nat) (a b : List Nat) (w : World) (ha : Reads w B 1 A n (a.map bv)) (hb : Reads w B 1 A' n' (b.map bv)) (hB : B ≤ w.heap.size) (hn : n ≤ maxLen) :
 Calls Tryz.prog 45 #[.slice A n c, .slice A' n' c'] w fun e w' => e = .returned (.bool (decide (a = b))) ∧ Below w.heap.size w w' := by
 unfold maxLen at hn
 have hal : a.length = n := by have := ha.1; simpa using this
 have hbl : b.length = n' := by have := hb.1; simpa using this
 obtain ⟨r, hr⟩ : ∃ r, decide (a = b) = r := ⟨_, rfl⟩
 rw [hr]
 have HA := qh ha; have HB := qh hb; have Qb := qh hal; have oU := qh hbl; have HR := qh hr
 clear ha hb hal hbl hr
 by_cases hnn : n = n'
 ·subst hnn
  go_enter Tryz.func45, Tryz.ntmps45
  go_wp2
  go_loopw [13] (fun i wr => ∃ k : Nat, k ≤ n ∧ i = .int .i64 k ∧ a.take k = b.take k ∧ Below w.heap.size w wr) (fun i _ => n - (RowKit.intOf i).toNat)
  case atStart => exact ⟨0, by omega, rfl, rfl, Below.refl _ _⟩
  case round =>
   obtain ⟨k, hk, rfl, heq, hbw⟩ := hrel
   have PW := qh heq; have aQ := qh hbw
   clear heq hbw
   by_cases hlt : k < n
   ·have hka : k < a.length := by rw [Qb.out]; exact hlt
    have hkb : k < b.length := by rw [oU.out]; exact hlt
    have cB : (k : Int) < (n : Int) := by omega
    obtain ⟨ad, rfl, had, hcell⟩ := (HA.out.below (aQ.out.mono hB)).2 (by omega)
    obtain ⟨ad', rfl, W9, hcell'⟩ := (HB.out.below (aQ.out.mono hB)).2 (by omega)
    have hc0 := hcell k (bv a[k]) (by rw [List.getElem?_map, List.getElem?_eq_getElem hka]; rfl)
    have hc1 := hcell' k (bv b[k]) (by rw [List.getElem?_map, List.getElem?_eq_getElem hkb]; rfl)
    have hT : a.take (k + 1) = b.take (k + 1) ↔ a[k] = b[k] := by
     have e1 := List.take_succ_eq_append_getElem hka
     have e2 := List.take_succ_eq_append_getElem hkb
     rw [e1, e2, PW.out]
     exact ⟨fun h => by have := List.append_cancel_left h; simpa using this, fun h => by rw [h]⟩
    have hne : a[k] ≠ b[k] → r = false := fun h => by
     rw [← HR.out, decide_eq_false]
     rintro rfl
     exact h rfl
    generalize a[k] = s at *
    generalize b[k] = t at *
    have HT := qh hT; have HN := qh hne
    clear hT hne hcell hcell'
    by_cases h1 : s = t
    ·have e1 : ((s : Int) == (t : Int)) = true := by rw [h1]; simp
     have bL := qh h1
     clear h1
     go_wp2
     go_region
     go_wp2
     go_roundw
     case rel => exact ⟨k + 1, by omega, by go_num, HT.out.2 bL.out, aQ.out.drew⟩
     case measure => simp [RowKit.intOf]; omega
    ·have e1 : ((s : Int) == (t : Int)) = false := by rw [beq_eq_false_iff_ne]; omega
     have hr0 := HN.out h1
     subst hr0
     clear h1
     go_wp2
     go_region
     go_wp2
     go_ret
     exact ⟨rfl, aQ.out.drew⟩
   ·obtain rfl : k = n := by omega
    have hab : a = b := by
     have h := PW.out
     rw [List.take_of_length_le (by rw [Qb.out]; exact Nat.le_refl _), List.take_of_length_le (by rw [oU.out]; exact Nat.le_refl _)] at h
     exact h
    have hr1 : r = true := by rw [← HR.out, decide_eq_true hab]
    subst hr1
    clear hab hlt
    go_wp2
    go_ret
    exact ⟨rfl, aQ.out⟩
 ·have hr0 : r = false := by
   rw [← HR.out, decide_eq_false]
   rintro rfl
   exact hnn (by rw [← Qb.out, ← oU.out])
  subst hr0
  have hne : ((n : Int) == (n' : Int)) = false := by rw [beq_eq_false_iff_ne]; omega
  clear hnn
  go_enter Tryz.func45, Tryz.ntmps45
  go_wp2
  go_ret
  exact ⟨rfl, Below.refl _ _⟩
abbrev st8 (w : World) (g : Nat) (c0 c1 c2 c3 c4 c5 c6 c7 : Value) : World := (((((((w.setCell ⟨g, 0, none⟩ c0).setCell ⟨g, 1, none⟩ c1).setCell ⟨g, 2, none⟩ c2).setCell ⟨g, 3, none⟩ c3).setCell ⟨g, 4, none⟩ c4).setCell ⟨g, 5, none⟩ c5).setCell ⟨g, 6, none⟩ c6).setCell ⟨g, 7, none⟩ c7
section
variable {w : World} {g : Nat} {t : TypeId} {a0 a1 a2 a3 a4 a5 a6 a7 : Value}
theorem Blk.st8 (h : Blk w g t #[a0, a1, a2, a3, a4, a5, a6, a7]) (c0 c1 c2 c3 c4 c5 c6 c7 : Value) : Blk (st8 w g c0 c1 c2 c3 c4 c5 c6 c7) g t #[c0, c1, c2, c3, c4, c5, c6, c7] := by
 have := (((((((h.set_ 0 c0).set_ 1 c1).set_ 2 c2).set_ 3 c3).set_ 4 c4).set_ 5 c5).set_ 6 c6).set_ 7 c7
 simpa using this
theorem av.st8 (w : World) (g : Nat) (c0 c1 c2 c3 c4 c5 c6 c7 : Value) : av [g] w (st8 w g c0 c1 c2 c3 c4 c5 c6 c7) := by
 have m : ∀ i : Nat, (⟨g, i, none⟩ : Addr).block ∈ [g] ∨ w.heap.size ≤ (⟨g, i, none⟩ : Addr).block := fun i => .inl (List.mem_singleton_self g)
 exact ((((((((av.refl [g] w).setCell (m 0) c0).setCell (m 1) c1).setCell (m 2) c2).setCell (m 3) c3).setCell (m 4) c4).setCell (m 5) c5).setCell (m 6) c6).setCell (m 7) c7
theorem Blk.eight (h : Blk w g t #[a0, a1, a2, a3, a4, a5, a6, a7]) : (w.cell? ⟨g, 0, none⟩ = some a0 ∧ w.cell? ⟨g, 1, none⟩ = some a1 ∧ w.cell? ⟨g, 2, none⟩ = some a2 ∧ w.cell? ⟨g, 3, none⟩ = some a3) ∧ w.cell? ⟨g, 4, none⟩ = some a4 ∧ w.cell? ⟨g, 5, none⟩ = some a5 ∧ w.cell? ⟨g, 6, none⟩ = some a6 ∧ w.cell? ⟨g, 7, none⟩ = some a7 :=
 ⟨⟨h.cell 0, h.cell 1, h.cell 2, h.cell 3⟩, h.cell 4, h.cell 5, h.cell 6, h.cell 7⟩
theorem Blk.free8 (h : Blk w g t #[a0, a1, a2, a3, a4, a5, a6, a7]) : (w.frozen? ⟨g, 0, none⟩ = false ∧ w.frozen? ⟨g, 1, none⟩ = false ∧ w.frozen? ⟨g, 2, none⟩ = false ∧ w.frozen? ⟨g, 3, none⟩ = false) ∧ w.frozen? ⟨g, 4, none⟩ = false ∧ w.frozen? ⟨g, 5, none⟩ = false ∧ w.frozen? ⟨g, 6, none⟩ = false ∧ w.frozen? ⟨g, 7, none⟩ = false :=
 ⟨⟨h.frozen 0, h.frozen 1, h.frozen 2, h.frozen 3⟩, h.frozen 4, h.frozen 5, h.frozen 6, h.frozen 7⟩
end
abbrev ZP : Array Value := #[.slice none 0 0, .slice none 0 0, .slice none 0 0, .slice none 0 0, .slice none 0 0, .slice none 0 0, .slice none 0 0, .slice none 0 0]
theorem GD (w : World) (S : Nat → Prop) : dF w S rR [.slice none 0 0, .slice none 0 0, .slice none 0 0, .slice none 0 0, .slice none 0 0, .slice none 0 0, .slice none 0 0, .slice none 0 0] :=
 ⟨_, _, _, _, _, _, _, _, rfl, iJ _ _ _ _, iJ _ _ _ _, iJ _ _ _ _, iJ _ _ _ _, iJ _ _ _ _, iJ _ _ _ _, iJ _ _ _ _, iJ _ _ _ _⟩
def wL (w : World) (x : Pj × Int) (e : Ending) (w' : World) : Prop := ∃ cs, e = .returned (.tuple #[.agg cs.toArray, .int .i64 x.2]) ∧ dF w' (dW w w') x.1 cs ∧ Below w.heap.size w w'
theorem dB {w W : World} (hb : Below w.heap.size w W) (hk : Blk W w.heap.size 33 ZP) (x : Int) : Blk (st8 W w.heap.size (.slice none 0 0) (.slice none 0 0) (.slice none 0 0) (.slice none 0 0) (.slice none 0 0) (.slice none 0 0) (.slice none 0 0) (.slice none 0 0)) w.heap.size 33 ZP ∧ wL w (rR, x) (.returned (.tuple #[.agg ZP, .int .i64 x])) (st8 W w.heap.size (.slice none 0 0) (.slice none 0 0) (.slice none 0 0) (.slice none 0 0) (.slice none 0 0) (.slice none 0 0) (.slice none 0 0) (.slice none 0 0)) :=
 ⟨hk.st8 _ _ _ _ _ _ _ _, _, rfl, GD _ _, hb.trans ((av.st8 _ _ _ _ _ _ _ _ _ _).below (by simp) (hb.size))⟩
theorem vW {a b : List Nat} (ha : ∀ c ∈ a, c < 256) (hb : ∀ c ∈ b, c < 256) : ((gH a).toList == (gH b).toList) = decide (a = b) := by
 rw [oQ]
 refine decide_eq_decide.2 ⟨fun e => ?_, fun e => by rw [e]⟩
 have e1 : bs (gH a) = a.map UInt8.ofNat := rfl
 have e2 : bs (gH b) = b.map UInt8.ofNat := rfl
 rw [e1, e2] at e
 have := congrArg (List.map UInt8.toNat) e
 rwa [tV ha, tV hb] at this
theorem BU (w : World) (A : Option Addr) (n c B : Nat) (bs : List Nat) (hr : Reads w B 1 A n (bs.map bv)) (hB : B ≤ w.heap.size) (hn : n ≤ c) (hc : c ≤ maxLen) (hs : n ≤ 1000000000) (hb : ∀ b ∈ bs, b < 256) :
 Calls Tryz.prog 15 #[.slice A n c] w (wL w (mR bs)) := by
 have hbl : bs.length = n := by have := hr.1; simpa using this
 have hb0 := (Below.refl w.heap.size w).alloc (Nat.le_refl _) (.cells ZP 33)
 have hk0 := Blk.new w 33 ZP
 obtain ⟨W0, hW0⟩ : ∃ W, w.alloc (.cells ZP 33) = W := ⟨_, rfl⟩
 rw [hW0] at hb0 hk0
 have hr0 := hr.below (hb0.mono hB)
 have hsz0 : w.heap.size < W0.heap.size := hk0.lt
 obtain ⟨o, ho⟩ : ∃ o, mR bs = o := ⟨_, rfl⟩
 rw [ho]
 have HO := qh ho
 clear ho
 unfold maxLen at hc
 have HW0 := qh hW0; have HB0 := qh hb0; have jg := qh hk0; have NU := qh hr0; have Nj := qh hb; have oU := qh hbl
 have HRW := qh hr
 clear hW0 hb0 hk0 hr0 hb hr hbl
 by_cases h8 : n < 8
 ·obtain rfl : o = (rR, 10) := by rw [← HO.out, vQ (by rw [oU.out]; exact h8)]
  have hI : (n : Int) - 4 < 4 := by omega
  obtain ⟨⟨z0, z1, z2, z3⟩, z4, z5, z6, z7⟩ := jg.out.eight
  obtain ⟨⟨q0, q1, q2, q3⟩, q4, q5, q6, q7⟩ := jg.out.free8
  have ay := dB HB0.out jg.out 10
  have aD := qh ay
  clear ay h8
  go_enter Tryz.func15, Tryz.ntmps15
  go_wp2_with (rw [HW0.out])
  obtain ⟨⟨d0, d1, d2, d3⟩, d4, d5, d6, d7⟩ := aD.out.1.eight
  exact bodyPost_ret (v := .tuple #[.agg ZP, .int .i64 10]) (by simp [results, Tryz.results15, go_sem, d0, d1, d2, d3, d4, d5, d6, d7]) rfl aD.out.2
 ·have hI : ¬ (n : Int) - 4 < 4 := by omega
  obtain ⟨A1, p1, p2⟩ := rq A n c 4 (by omega) hn
  have hp1 : ∀ W : World, (Instr.slice 36 (.slice A n c) none (some (.int .i64 4)) none).run Tryz.prog W = .ok (.slice A1 4 c) W := p1
  have hm4 : ∀ x ∈ bs.take 4, x < 256 := fun x hx => Nj.out x (List.mem_of_mem_take hx)
  have hcv : (convert 36 9 (.slice A1 4 c)).run Tryz.prog W0 = .ok (.string (gH (bs.take 4))) W0 := eX (by have := p2 W0 B _ NU.out; rwa [← List.map_take] at this) hm4
  have hbeq := vW hm4 (b := sK) (by unfold sK; decide)
  rw [show (gH sK).toList = [97, 98, 108, 49] by rw [Lib.toList_data]; rfl] at hbeq
  generalize gH (bs.take 4) = s4 at *
  by_cases Ea : bs.take 4 = sK
  case neg =>
   obtain rfl : o = (rR, 10) := by rw [← HO.out, BS Ea]
   rw [decide_eq_false Ea] at hbeq
   obtain ⟨⟨z0, z1, z2, z3⟩, z4, z5, z6, z7⟩ := jg.out.eight
   obtain ⟨⟨q0, q1, q2, q3⟩, q4, q5, q6, q7⟩ := jg.out.free8
   have ay := dB HB0.out jg.out 10
   have aD := qh ay
   clear ay h8 Ea hm4 p1 p2
   go_enter Tryz.func15, Tryz.ntmps15
   go_wp2_with (rw [HW0.out])
   obtain ⟨⟨d0, d1, d2, d3⟩, d4, d5, d6, d7⟩ := aD.out.1.eight
   exact bodyPost_ret (v := .tuple #[.agg ZP, .int .i64 (10)]) (by simp [results, Tryz.results15, go_sem, d0, d1, d2, d3, d4, d5, d6, d7]) rfl aD.out.2
  have hgs := @BR bs (by rw [oU.out]; exact h8) Ea
  have hgm := @yD bs (by rw [oU.out]; exact h8) Ea
  rw [oU.out, HO.out] at hgs hgm
  rw [decide_eq_true Ea] at hbeq
  obtain ⟨A2, t1, t2⟩ := zy A n c (n - 4) (by omega) hn
  obtain ⟨A3, u1, u2⟩ := rq A n c (n - 4) (by omega) hn
  obtain ⟨A5, y1, y2⟩ := Km A n c 4 (n - 4) (by omega) (by omega) hn
  have e4 : ((n - 4 : Nat) : Int) = (n : Int) - 4 := by omega
  rw [e4] at t1 u1
  have hy1 : ∀ W : World, (Instr.slice 36 (.slice A n c) (some (.int .i64 4)) (some (.int .i64 ((n : Int) - 4))) none).run Tryz.prog W = .ok (.slice A5 (n - 4 - 4) (c - 4)) W := by rw [← e4]; exact y1
  rw [show n - (n - 4) = 4 by omega] at t1 t2
  have hbt : ∀ x ∈ bs.take (n - 4), x < 256 := fun x hx => Nj.out x (List.mem_of_mem_take hx)
  have hbd : ∀ x ∈ bs.drop (n - 4), x < 256 := fun x hx => Nj.out x (List.mem_of_mem_drop hx)
  have hr3 := u2 W0.drew B _ (show Reads W0.drew B 1 A n (bs.map bv) from NU.out)
  rw [← List.map_take] at hr3
  have hsum := EN A3 (n - 4) c ((bs.take (n - 4)).map UInt8.ofNat) W0.drew (uL (hr3.more (by show B ≤ W0.heap.size; omega)) hbt) (by unfold maxLen; omega)
  rw [tV hbt] at hsum
  have zt := yT hbt
  obtain ⟨sm, hsm⟩ : ∃ x, oD (bs.take (n - 4)) = x := ⟨_, rfl⟩
  rw [hsm] at hsum zt hgs hgm
  have Qs := qh hgs; have U9 := qh hgm
  clear hgs hgm
  have BO := Kg sm zt W0.drew
  have hf4 : ∀ x ∈ eH sm, x < 256 := by
   intro x hx
   unfold eH at hx
   simp only [List.mem_cons, List.not_mem_nil, or_false] at hx
   rcases hx with rfl | rfl | rfl | rfl <;> omega
  have hp' : (bs.take (n - 4)).drop 4 = (bs.drop 4).take (n - 4 - 4) := by rw [List.drop_take]
  have KO := qh hsum; have La := qh BO; have T2 := qh t2; have Y2 := qh y2; have HPP := qh hp'
  obtain ⟨rs, hrs⟩ : ∃ x, decide (bs.drop (n - 4) = eH sm) = x := ⟨_, rfl⟩
  have zT := qh hrs
  have hE : ∀ (W : World) (A4 : Option Addr) (c4 : Nat), Below w.heap.size w W → Reads W W.heap.size 1 A4 4 ((eH sm).map bv) → Calls Tryz.prog 45 #[.slice A2 4 (c - (n - 4)), .slice A4 4 c4] W fun e w' => e = .returned (.bool rs) ∧ Below W.heap.size W w' := fun W A4 c4 hW h4 => by
   have h5 := T2.out W W.heap.size _ ((HRW.out.below (hW.mono hB)).more (by have := hW.size; omega))
   rw [← List.map_drop] at h5
   have h6 := I4 A2 A4 4 4 (c - (n - 4)) c4 W.heap.size (bs.drop (n - 4)) (eH sm) W h5 h4 (Nat.le_refl _) (by unfold maxLen; omega)
   rwa [hrs] at h6
  have HE := qh hE
  clear hsum BO t2 y1 y2 hp' hrs hE hr3 u2 p1 p2 hm4 hsm h8 Ea e4 zt
  go_enter Tryz.func15, Tryz.ntmps15
  go_wp2_with (rw [HW0.out])
  refine wp_region_held_drew (S := (fun _ => True)) (by kernel_rfl) ?_ (fun ah => ?_)
  ·(try dsimp only)
   all_goals trivial
  iterate 6
   refine tkH 0 (v := ?_) rfl (fun _ _ _ h => h) ?_ ?_
   rotate_left
   ·intro w hSw; (try dsimp only at hSw); (try simp only [tkN, gq3, gq1]); go_simp <;> with_reducible rfl
   try simp only [tkN, Act.put, gq3, gq1]
  refine rdH 6 fun K hK => ?_
  go_simp
  (try go_wp2_with fail)
  refine KO.out.mono ?_
  rintro e w1 ⟨rfl, rfl⟩
  (try go_simp)
  refine hK.out _ _ ?_ (fun aJ => ?_)
  ·(try dsimp only)
   all_goals trivial
  clear hK K ah; rename _ => ah
  refine rdH 7 fun K hK => ?_
  go_simp
  (try go_wp2_with fail)
  refine La.out.mono ?_
  rintro e w2 ⟨v, rfl, ho4, hb2⟩
  replace ho4 : w2.ownsRow W0.drew.heap.size 5 1 v 4 ((eH sm).map bv) := ho4
  obtain ⟨A4, c4, rfl, h41, h42⟩ := ownsRow_form ho4
  have hb2' : Below w.heap.size w w2 := HB0.out.drew.trans (hb2.mono (by show w.heap.size ≤ W0.heap.size; omega))
  have Y1 := HE.out w2 A4 c4 hb2' (Reads.of_own ho4)
  have zL := qh ((show Blk W0.drew w.heap.size 33 ZP from jg.out).below hb2 (show w.heap.size < W0.drew.heap.size from hsz0))
  have HB2 := qh hb2'; have HCE := qh Y1
  clear ho4 hb2 hb2' Y1 h41 h42
  (try go_simp)
  refine hK.out _ _ ?_ (fun aJ => ?_)
  ·(try dsimp only)
   all_goals trivial
  clear hK K ah; rename _ => ah
  refine rdH 8 fun K hK => ?_
  go_simp
  (try go_wp2_with fail)
  refine HCE.out.mono ?_
  rintro e w3 ⟨rfl, hb3⟩
  have HB3 := qh (HB2.out.trans (hb3.mono HB2.out.size)); have Io := qh (zL.out.below hb3 zL.out.lt)
  clear hb3
  (try go_simp)
  refine hK.out _ _ ?_ (fun aJ => ?_)
  ·(try dsimp only)
   all_goals trivial
  clear hK K ah; rename _ => ah
  refine tkH 9 (v := ?_) rfl (fun _ _ _ h => h) ?_ ?_
  rotate_left
  ·intro w hSw; (try dsimp only at hSw); (try simp only [tkN, gq3, gq1]); go_simp <;> with_reducible rfl
  try simp only [tkN, Act.put, gq3, gq1]
  refine wpAnyH_done (by kernel_rfl) ?_ _
  cases rs with
  | false =>
    have hne : bs.drop (n - 4) ≠ eH sm := fun h => by
     have := zT.out
     rw [decide_eq_true h] at this
     cases this
    obtain rfl : o = (rR, 13) := Qs.out hne
    obtain ⟨⟨z0, z1, z2, z3⟩, z4, z5, z6, z7⟩ := Io.out.eight
    obtain ⟨⟨q0, q1, q2, q3⟩, q4, q5, q6, q7⟩ := Io.out.free8
    have ay := dB HB3.out Io.out 13
    have aD := qh ay
    clear ay hne
    go_wp2
    obtain ⟨⟨d0, d1, d2, d3⟩, d4, d5, d6, d7⟩ := aD.out.1.eight
    exact bodyPost_ret (v := .tuple #[.agg ZP, .int .i64 (13)]) (by simp [results, Tryz.results15, go_sem, d0, d1, d2, d3, d4, d5, d6, d7]) rfl aD.out.2
  | true =>
    have heq : bs.drop (n - 4) = eH sm := of_decide_eq_true zT.out
    have lg := U9.out heq
    have hr5 := Y2.out w3 B _ (HRW.out.below (HB3.out.mono hB))
    rw [← List.map_drop, ← List.map_take, ← HPP.out] at hr5
    have hb5 : ∀ x ∈ (bs.take (n - 4)).drop 4, x < 256 := fun x hx => hbt x (List.mem_of_mem_drop hx)
    have hl5 : ((bs.take (n - 4)).drop 4).length ≤ 1000000000 := by rw [List.length_drop, List.length_take]; omega
    have hrd := Gv w3 A5 (n - 4 - 4) (c - 4) B _ hr5 (by have := HB3.out.size; omega) (by omega) (by unfold maxLen; omega) (by omega) hb5
    generalize (bs.take (n - 4)).drop 4 = md at *
    have mh := qh hb5
    clear hr5 heq hb5
    clear Qs U9
    cases hpr : iN md with
    | none =>
      rw [hpr] at hrd lg
      obtain rfl : o = (rR, 10) := lg
      obtain ⟨B1, m1, b1, B2, m2, b2, B3, m3, b3, B4, m4, b4, B5, m5, b5, B6, m6, b6, B7, m7, b7, B8, m8, b8, hz⟩ : ∃ (B1 : Option Addr) (m1 b1 : Nat) (B2 : Option Addr) (m2 b2 : Nat) (B3 : Option Addr) (m3 b3 : Nat) (B4 : Option Addr) (m4 b4 : Nat) (B5 : Option Addr) (m5 b5 : Nat) (B6 : Option Addr) (m6 b6 : Nat) (B7 : Option Addr) (m7 b7 : Nat) (B8 : Option Addr) (m8 b8 : Nat), mq.toArray = #[.slice B1 m1 b1, .slice B2 m2 b2, .slice B3 m3 b3, .slice B4 m4 b4, .slice B5 m5 b5, .slice B6 m6 b6, .slice B7 m7 b7, .slice B8 m8 b8] := ⟨none, 0, 0, none, 0, 0, none, 0, 0, none, 0, 0, none, 0, 0, none, 0, 0, none, 0, 0, none, 0, 0, rfl⟩
      have hrd2 : Calls _ _ _ _ fun e w' => Below w3.heap.size w3 w' ∧ e = .returned (.tuple #[.agg mq.toArray, .int .i64 0, .bool false]) := hrd
      rw [hz] at hrd2
      have yM := qh hrd2
      clear hz hrd2
      clear hrd hpr
      go_wp2_with fail
      refine yM.out.mono ?_
      rintro e w4 ⟨hb4, rfl⟩
      have vI := HB3.out.trans (hb4.mono HB3.out.size)
      have hk4 := Io.out.below hb4 Io.out.lt
      obtain ⟨W5, qf⟩ : ∃ W, w4.alloc (.cells #[.slice B1 m1 b1, .slice B2 m2 b2, .slice B3 m3 b3, .slice B4 m4 b4, .slice B5 m5 b5, .slice B6 m6 b6, .slice B7 m7 b7, .slice B8 m8 b8] 33) = W := ⟨_, rfl⟩
      have hb5 := vI.alloc vI.size (.cells #[.slice B1 m1 b1, .slice B2 m2 b2, .slice B3 m3 b3, .slice B4 m4 b4, .slice B5 m5 b5, .slice B6 m6 b6, .slice B7 m7 b7, .slice B8 m8 b8] 33)
      have hk5 := hk4.alloc (.cells #[.slice B1 m1 b1, .slice B2 m2 b2, .slice B3 m3 b3, .slice B4 m4 b4, .slice B5 m5 b5, .slice B6 m6 b6, .slice B7 m7 b7, .slice B8 m8 b8] 33)
      rw [qf] at hb5 hk5
      have zR := qh qf; have Ig := qh hb5; have yN := qh hk5
      clear hb4 vI hk4 hb5 hk5 qf
      obtain ⟨⟨z0, z1, z2, z3⟩, z4, z5, z6, z7⟩ := yN.out.eight
      obtain ⟨⟨q0, q1, q2, q3⟩, q4, q5, q6, q7⟩ := yN.out.free8
      have ay := dB Ig.out yN.out 10
      have aD := qh ay
      clear ay
      go_wp2_with (rw [zR.out])
      obtain ⟨⟨d0, d1, d2, d3⟩, d4, d5, d6, d7⟩ := aD.out.1.eight
      exact bodyPost_ret (v := .tuple #[.agg ZP, .int .i64 (10)]) (by simp [results, Tryz.results15, go_sem, d0, d1, d2, d3, d4, d5, d6, d7]) rfl aD.out.2
    | some q =>
      obtain ⟨p, r⟩ := q
      rw [hpr] at hrd lg
      have hsz := qF md p r mh.out hpr
      have yM := qh hrd
      clear hrd hpr
      cases r with
      | cons y r =>
        obtain rfl : o = (rR, 10) := lg
        have hgt : (0 : Int) < ((y :: r).length : Int) := by simp only [List.length_cons]; omega
        have Vz := qh hsz
        clear hsz
        generalize (y :: r).length = lr at *
        go_wp2_with fail
        refine yM.out.mono ?_
        rintro e w4 ⟨hb4, cs, rfl, bV⟩
        have vI := HB3.out.trans (hb4.mono HB3.out.size)
        have hk4 := Io.out.below hb4 Io.out.lt
        obtain ⟨v1, v2, v3, v4, v5, v6, v7, v8, rfl, x1, x2, x3, x4, x5, x6, x7, x8⟩ := bV
        obtain ⟨B1, b1, rfl⟩ := x1.form; obtain ⟨B2, b2, rfl⟩ := x2.form; obtain ⟨B3, b3, rfl⟩ := x3.form; obtain ⟨B4, b4, rfl⟩ := x4.form; obtain ⟨B5, b5, rfl⟩ := x5.form; obtain ⟨B6, b6, rfl⟩ := x6.form; obtain ⟨B7, b7, rfl⟩ := x7.form; obtain ⟨B8, b8, rfl⟩ := x8.form
        obtain ⟨W5, qf⟩ : ∃ W, w4.alloc (.cells #[.slice B1 p.aK.length b1, .slice B2 p.aG.length b2, .slice B3 p.marks.length b3, .slice B4 p.tree.length b4, .slice B5 p.au.length b5, .slice B6 p.on.length b6, .slice B7 p.aA.length b7, .slice B8 p.entries.length b8] 33) = W := ⟨_, rfl⟩
        have hb5 := vI.alloc vI.size (.cells #[.slice B1 p.aK.length b1, .slice B2 p.aG.length b2, .slice B3 p.marks.length b3, .slice B4 p.tree.length b4, .slice B5 p.au.length b5, .slice B6 p.on.length b6, .slice B7 p.aA.length b7, .slice B8 p.entries.length b8] 33)
        have hk5 := hk4.alloc (.cells #[.slice B1 p.aK.length b1, .slice B2 p.aG.length b2, .slice B3 p.marks.length b3, .slice B4 p.tree.length b4, .slice B5 p.au.length b5, .slice B6 p.on.length b6, .slice B7 p.aA.length b7, .slice B8 p.entries.length b8] 33)
        rw [qf] at hb5 hk5
        have zR := qh qf; have Ig := qh hb5; have yN := qh hk5
        clear hb4 vI hk4 hb5 hk5 qf x1 x2 x3 x4 x5 x6 x7 x8
        obtain ⟨⟨z0, z1, z2, z3⟩, z4, z5, z6, z7⟩ := yN.out.eight
        obtain ⟨⟨q0, q1, q2, q3⟩, q4, q5, q6, q7⟩ := yN.out.free8
        have ay := dB Ig.out yN.out 10
        have aD := qh ay
        clear ay
        go_wp2_with (rw [zR.out])
        obtain ⟨⟨d0, d1, d2, d3⟩, d4, d5, d6, d7⟩ := aD.out.1.eight
        exact bodyPost_ret (v := .tuple #[.agg ZP, .int .i64 (10)]) (by simp [results, Tryz.results15, go_sem, d0, d1, d2, d3, d4, d5, d6, d7]) rfl aD.out.2
      | nil =>
        have Qe : Ct p := hsz.1.1.rd hl5
        have HRP := qh Qe
        clear hsz Qe
        go_wp2_with fail
        refine yM.out.mono ?_
        rintro e w4 ⟨hb4, cs, rfl, bV⟩
        have vI := HB3.out.trans (hb4.mono HB3.out.size)
        have hk4 := Io.out.below hb4 Io.out.lt
        have hpc := dF.toC (B := w4.heap.size) (fun b hb => hb.2) bV
        have nT := qh bV
        obtain ⟨v1, v2, v3, v4, v5, v6, v7, v8, rfl, x1, x2, x3, x4, x5, x6, x7, x8⟩ := bV
        obtain ⟨B1, b1, rfl⟩ := x1.form; obtain ⟨B2, b2, rfl⟩ := x2.form; obtain ⟨B3, b3, rfl⟩ := x3.form; obtain ⟨B4, b4, rfl⟩ := x4.form; obtain ⟨B5, b5, rfl⟩ := x5.form; obtain ⟨B6, b6, rfl⟩ := x6.form; obtain ⟨B7, b7, rfl⟩ := x7.form; obtain ⟨B8, b8, rfl⟩ := x8.form
        clear x1 x2 x3 x4 x5 x6 x7 x8
        obtain ⟨W5, qf⟩ : ∃ W, w4.alloc (.cells #[.slice B1 p.aK.length b1, .slice B2 p.aG.length b2, .slice B3 p.marks.length b3, .slice B4 p.tree.length b4, .slice B5 p.au.length b5, .slice B6 p.on.length b6, .slice B7 p.aA.length b7, .slice B8 p.entries.length b8] 33) = W := ⟨_, rfl⟩
        have hb5 := vI.alloc vI.size (.cells #[.slice B1 p.aK.length b1, .slice B2 p.aG.length b2, .slice B3 p.marks.length b3, .slice B4 p.tree.length b4, .slice B5 p.au.length b5, .slice B6 p.on.length b6, .slice B7 p.aA.length b7, .slice B8 p.entries.length b8] 33)
        have hk5 := hk4.alloc (.cells #[.slice B1 p.aK.length b1, .slice B2 p.aG.length b2, .slice B3 p.marks.length b3, .slice B4 p.tree.length b4, .slice B5 p.au.length b5, .slice B6 p.on.length b6, .slice B7 p.aA.length b7, .slice B8 p.entries.length b8] 33)
        have hx5 := Blk.new w4 33 #[.slice B1 p.aK.length b1, .slice B2 p.aG.length b2, .slice B3 p.marks.length b3, .slice B4 p.tree.length b4, .slice B5 p.au.length b5, .slice B6 p.on.length b6, .slice B7 p.aA.length b7, .slice B8 p.entries.length b8]
        have hbw := (Below.refl w4.heap.size w4).alloc (Nat.le_refl _) (.cells #[.slice B1 p.aK.length b1, .slice B2 p.aG.length b2, .slice B3 p.marks.length b3, .slice B4 p.tree.length b4, .slice B5 p.au.length b5, .slice B6 p.on.length b6, .slice B7 p.aA.length b7, .slice B8 p.entries.length b8] 33)
        rw [qf] at hb5 hk5 hx5 hbw
        have hck := G8 W5 w4.heap.size p _ (dx.keep (fun q hq => hbw.cell (p := q) hq) hpc) hbw.size HRP.out
        obtain ⟨x, hx⟩ : ∃ x, iX p = x := ⟨_, rfl⟩
        rw [hx] at hck
        have wY : o = if x = 0 then (p, 0) else (rR, x) := by rw [lg]; show (if iX p = 0 then (p, 0) else (rR, iX p)) = _; rw [hx]
        have Iq := qh hck; have zR := qh qf; have Ig := qh hb5; have yN := qh hk5; have yL := qh hx5; have aQ := qh hbw; have M5 := qh wY
        have k0 := hx5.eight
        obtain ⟨⟨k0, k1, k2, k3⟩, k4, k5, k6, k7⟩ := k0
        have hsz4 : W0.heap.size ≤ W0.heap.size := Nat.le_refl _
        clear hb4 vI hk4 hb5 hk5 qf hpc hx5 hbw hck hx lg wY hsz4
        go_wp2_with (rw [zR.out])
        refine Iq.out.mono ?_
        rintro e w6 ⟨rfl, hb6⟩
        have J7 := Ig.out.trans (hb6.mono Ig.out.size)
        have hk6 := yN.out.below hb6 yN.out.lt
        have Nn := qh J7; have Im := qh hk6
        by_cases h0 : x = 0
        ·obtain rfl : o = (p, 0) := by rw [M5.out, if_pos h0]
         have hx0 : (x != (0 : Int)) = false := by rw [h0]; rfl
         have hx6 := yL.out.below hb6 (by have := yL.out.lt; exact this)
         obtain ⟨⟨m0, m1, m2, m3⟩, m4, m5, m6, m7⟩ := hx6.eight
         obtain ⟨⟨z0, z1, z2, z3⟩, z4, z5, z6, z7⟩ := Im.out.eight
         obtain ⟨⟨q0, q1, q2, q3⟩, q4, q5, q6, q7⟩ := Im.out.free8
         have hs8 := Im.out.st8 (.slice B1 p.aK.length b1) (.slice B2 p.aG.length b2) (.slice B3 p.marks.length b3) (.slice B4 p.tree.length b4) (.slice B5 p.au.length b5) (.slice B6 p.on.length b6) (.slice B7 p.aA.length b7) (.slice B8 p.entries.length b8)
         have hc8 := av.st8 w6 w.heap.size (.slice B1 p.aK.length b1) (.slice B2 p.aG.length b2) (.slice B3 p.marks.length b3) (.slice B4 p.tree.length b4) (.slice B5 p.au.length b5) (.slice B6 p.on.length b6) (.slice B7 p.aA.length b7) (.slice B8 p.entries.length b8)
         have BK := hc8.size
         have JK : w4.heap.size ≤ w6.heap.size := Nat.le_trans aQ.out.size hb6.size
         have hsz3 := HB3.out.size
         have hpf8 : dF (st8 w6 w.heap.size (.slice B1 p.aK.length b1) (.slice B2 p.aG.length b2) (.slice B3 p.marks.length b3) (.slice B4 p.tree.length b4) (.slice B5 p.au.length b5) (.slice B6 p.on.length b6) (.slice B7 p.aA.length b7) (.slice B8 p.entries.length b8)) (dW w (st8 w6 w.heap.size (.slice B1 p.aK.length b1) (.slice B2 p.aG.length b2) (.slice B3 p.marks.length b3) (.slice B4 p.tree.length b4) (.slice B5 p.au.length b5) (.slice B6 p.on.length b6) (.slice B7 p.aA.length b7) (.slice B8 p.entries.length b8))) p _ :=
          dF.keep (S := fun b => w3.heap.size ≤ b ∧ b < w4.heap.size) (fun b hb => ⟨by omega, by omega⟩) (fun q hq => by
           have e1 := aQ.out.cell (p := q) hq.2
           have e2 := hb6.cell (p := q) (Nat.lt_of_lt_of_le hq.2 aQ.out.size)
           rw [← e1, ← e2]
           unfold World.cell?
           rw [hc8.block q.block (by have := hq.2; omega) (by have := Io.out.lt; have := hq.1; simp only [List.mem_singleton]; omega)]) nT.out
         have ay : wL w (p, 0) (.returned (.tuple #[.agg #[.slice B1 p.aK.length b1, .slice B2 p.aG.length b2, .slice B3 p.marks.length b3, .slice B4 p.tree.length b4, .slice B5 p.au.length b5, .slice B6 p.on.length b6, .slice B7 p.aA.length b7, .slice B8 p.entries.length b8], .int .i64 0])) (st8 w6 w.heap.size (.slice B1 p.aK.length b1) (.slice B2 p.aG.length b2) (.slice B3 p.marks.length b3) (.slice B4 p.tree.length b4) (.slice B5 p.au.length b5) (.slice B6 p.on.length b6) (.slice B7 p.aA.length b7) (.slice B8 p.entries.length b8)) :=
          ⟨_, rfl, hpf8, J7.trans (hc8.below (by simp) (J7.size))⟩
         have Ql := qh hs8; have aD := qh ay
         clear hs8 hc8 BK JK hsz3 hpf8 ay hx6 hb6 J7 hk6 h0
         go_wp2
         obtain ⟨⟨d0, d1, d2, d3⟩, d4, d5, d6, d7⟩ := Ql.out.eight
         exact bodyPost_ret (by simp [results, Tryz.results15, go_sem, d0, d1, d2, d3, d4, d5, d6, d7]) rfl aD.out
        ·obtain rfl : o = (rR, x) := by rw [M5.out, if_neg h0]
         have hx0 : (x != (0 : Int)) = true := by rw [bne_iff_ne]; exact h0
         obtain ⟨⟨z0, z1, z2, z3⟩, z4, z5, z6, z7⟩ := Im.out.eight
         obtain ⟨⟨q0, q1, q2, q3⟩, q4, q5, q6, q7⟩ := Im.out.free8
         have ay := dB Nn.out Im.out x
         have aD := qh ay
         clear ay hb6 J7 hk6 h0
         go_wp2
         obtain ⟨⟨d0, d1, d2, d3⟩, d4, d5, d6, d7⟩ := aD.out.1.eight
         exact bodyPost_ret (v := .tuple #[.agg ZP, .int .i64 x]) (by simp [results, Tryz.results15, go_sem, d0, d1, d2, d3, d4, d5, d6, d7]) rfl aD.out.2
theorem Bc (n : Nat) (hn : n < 4294967296) (w : World) : Calls Tryz.prog 44 #[.int .u32 (n : Int)] w (Lm w (eH n)) := by
 go_enter Tryz.func44, Tryz.ntmps44
 go_wp2
 go_ret
 refine ⟨_, rfl, ?_, (Below.refl w.heap.size w).alloc (Nat.le_refl _) _⟩
 have e : (n : Int) / 16777216 = ((n / 16777216 % 256 : Nat) : Int) := by omega
 rw [e]
 exact World.ownsRow_lit (base := w.heap.size) (e := 5) (size := 1) w ((eH n).map bv).toArray 4 (Nat.le_refl _) (by unfold maxLen; omega) rfl
theorem yc {α : Type} {f : α → List Value} {m : Nat} (h : ∀ x, (f x).length = m) {w : World} {B : Nat} : ∀ x cs, kC f w B x cs → cs.length = m := fun x cs e => by rw [show cs = f x from e]; exact h x
theorem Jf {w : World} {B : Nat} : ∀ x cs, si w B x cs → cs.length = 1 := by
 rintro x cs ⟨v, rfl, -⟩; rfl
theorem Je {R : Nat} (h : R < 4294967296) : ones ^^^ R = 4294967295 - R := by
 have e : (ones ^^^ R) = (BitVec.ofNat 32 ones ^^^ BitVec.ofNat 32 R).toNat := by
  rw [BitVec.toNat_xor, BitVec.toNat_ofNat, BitVec.toNat_ofNat, Nat.mod_eq_of_lt h]; rfl
 rw [e, show BitVec.ofNat 32 ones = BitVec.allOnes 32 by decide, BitVec.allOnes_xor, BitVec.toNat_not, BitVec.toNat_ofNat, Nat.mod_eq_of_lt h]
theorem uJ (A : Option Addr) (n c : Nat) (xs : List UInt8) (w : World) (hx : ReadB w w.heap.size A n xs) (hn : n ≤ maxLen) :
 Calls Tryz.prog 14 #[.slice A n c] w fun e w' => e = .returned (.int .u32 (oD (xs.map UInt8.toNat) : Nat)) ∧ w = w' := by
 unfold maxLen at hn
 obtain ⟨res, hres⟩ : ∃ res : Nat, oD (xs.map UInt8.toNat) = res := ⟨_, rfl⟩
 rw [hres]
 have HX := qh hx; have bT := qh hres
 clear hx hres
 go_enter Tryz.func14, Tryz.ntmps14
 have hxl := HX.out.len
 go_wp2
 go_loopw [3, 4] (fun r i wr => ∃ k : Nat, k ≤ n ∧ i = .int .i64 k ∧ r = .int .u32 (eD ones ((xs.map UInt8.toNat).take k) : Nat) ∧ w = wr) (fun _ i _ => n - (RowKit.intOf i).toNat)
 case atStart => exact ⟨0, by omega, rfl, rfl, rfl⟩
 case round =>
  obtain ⟨k, hk, rfl, rfl, rfl⟩ := hrel
  by_cases hlt : k < n
  ·have bB : k < xs.length := by omega
   obtain ⟨ad, rfl, had, hcx⟩ := ReadB.at_ (k := k) HX.out bB
   have cB : (k : Int) < (n : Int) := by omega
   have hR : eD ones ((xs.map UInt8.toNat).take k) < 4294967296 := jo _ (by decide) (fun c hc => by
    obtain ⟨x, _, rfl⟩ := List.mem_map.1 (List.mem_of_mem_take hc)
    exact x.toNat_lt)
   have aF : eD ones ((xs.map UInt8.toNat).take (k + 1)) = nN (eD ones ((xs.map UInt8.toNat).take k)) xs[k].toNat := by
    rw [List.take_succ_eq_append_getElem (by simpa using bB)]
    unfold eD
    rw [List.foldl_append, List.foldl_cons, List.foldl_nil, List.getElem_map]
   have hc256 := xs[k].toNat_lt
   generalize xs[k].toNat = cc at hcx aF hc256
   generalize eD ones ((xs.map UInt8.toNat).take k) = R at hR aF ⊢
   have bL := qh aF
   have OB := u32_xor_nat R cc hR (by omega)
   clear aF
   have hY : R ^^^ cc < 4294967296 := Nat.xor_lt_two_pow (n := 32) hR (by omega)
   go_wp2
   generalize RH : R ^^^ cc = Y at *
   have HY := qh RH
   clear RH
   clear OB
   go_loopw [3, 5] (fun r i wr => ∃ j : Nat, j ≤ 8 ∧ i = .int .i64 j ∧ r = .int .u32 (fV j Y : Nat) ∧ w = wr) (fun _ i _ => 8 - (RowKit.intOf i).toNat)
   case atStart => exact ⟨0, by omega, rfl, rfl, rfl⟩
   case round =>
    obtain ⟨j, hj, rfl, rfl, rfl⟩ := hrel
    by_cases hlt2 : j < 8
    ·have hX : fV j Y < 4294967296 := lM j hY
     have hst2 := lL j Y
     generalize fV j Y = X at hX hst2 ⊢
     have dz := qh hst2
     clear hst2
     by_cases h1 : X % 2 = 1
     ·have yz : (X : Int) % 2 = 1 := by omega
      have hxo : bits .xor .u32 ((X : Int) / 2) 3988292384 = ((jK X : Nat) : Int) := by
       unfold jK ML
       rw [if_pos h1, show (X : Int) / 2 = ((X / 2 : Nat) : Int) by omega]
       exact u32_xor_nat (X / 2) 3988292384 (by omega) (by decide)
      have XK := qh hxo
      clear hxo
      go_wp2
      go_roundw
      case rel => exact ⟨j + 1, by omega, by go_num, by rw [dz.out, ← XK.out], trivial⟩
      case measure => simp [RowKit.intOf]; omega
     ·have yz : (X : Int) % 2 = 0 := by omega
      have hxo : (X : Int) / 2 = ((jK X : Nat) : Int) := by
       unfold jK
       rw [if_neg h1]; omega
      have XK := qh hxo
      clear hxo
      go_wp2
      go_roundw
      case rel => exact ⟨j + 1, by omega, by go_num, by rw [dz.out, ← XK.out], trivial⟩
      case measure => simp [RowKit.intOf]; omega
    ·obtain rfl : j = 8 := by omega
     go_wp2
     go_roundw
     case rel => exact ⟨k + 1, by omega, by go_num, by rw [bL.out]; unfold nN; rw [HY.out], trivial⟩
     case measure => simp [RowKit.intOf]; omega
  ·obtain rfl : k = n := by omega
   rw [List.take_of_length_le (by rw [List.length_map]; omega)]
   have hr := bT.out
   unfold oD at hr
   have hlt3 : eD ones (xs.map UInt8.toNat) < 4294967296 := jo _ (by decide) (fun c hc => by
    obtain ⟨x, _, rfl⟩ := List.mem_map.1 hc
    exact x.toNat_lt)
   generalize eD ones (xs.map UInt8.toNat) = R at hr hlt3 ⊢
   have hsub : (4294967295 : Int) - (R : Int) = ((res : Nat) : Int) := by
    rw [← hr, Je hlt3]; omega
   have Pp := qh hsub
   clear hsub
   go_wp2
   go_ret
   exact ⟨by rw [← Pp.out]; rfl, rfl⟩
theorem AX (c : UInt8) (w : World) : Calls Tryz.prog 203 #[.int .u8 c.toNat] w fun e w' => e = .returned (.bool (aT c)) ∧ w = w' := by
 obtain ⟨r, hr⟩ : ∃ r, aT c = r := ⟨_, rfl⟩
 rw [hr]
 unfold aT at hr
 have h256 := c.toNat_lt
 obtain ⟨n, hn⟩ : ∃ n, c.toNat = n := ⟨_, rfl⟩
 rw [hn] at hr h256 ⊢
 have HR := qh hr
 clear hr hn
 go_enter Tryz.func203, Tryz.ntmps203
 go_wp2
 all_goals
  go_ret
  refine ⟨?_, rfl⟩
  rw [← HR.out]
  simp
  try (first | omega | (rw [Bool.eq_iff_iff]; simp only [Bool.or_eq_true, Bool.and_eq_true, decide_eq_true_eq, beq_iff_eq]; omega))
theorem xW (s : ByteArray) (w : World) (hs : s.size ≤ maxLen) : Calls Tryz.prog 157 #[.string s] w fun e w' => e = .returned (.bool (aM s)) ∧ w = w' := by
 obtain ⟨r, hr⟩ : ∃ r, aM s = r := ⟨_, rfl⟩
 rw [hr]
 rw [uW] at hr
 have HR := qh hr
 clear hr
 unfold maxLen at hs
 go_enter Tryz.func157, Tryz.ntmps157
 go_wp2
 go_loopw [3] (fun i wr => ∃ k : Nat, k ≤ s.size ∧ i = .int .i64 k ∧ ((bs s).take k).all aT = true ∧ w = wr) (fun i _ => s.size - (RowKit.intOf i).toNat)
 case atStart => exact ⟨0, by omega, rfl, rfl, rfl⟩
 case round =>
  obtain ⟨k, hk, rfl, aI, rfl⟩ := hrel
  by_cases hlt : k < s.size
  ·have cB : (k : Int) < (s.size : Int) := by omega
   have hk0 : (0 : Int) ≤ (k : Int) := by omega
   have hkb : k < (bs s).length := by rw [fT]; exact hlt
   have gp : (bs s)[k] = s[k]'hlt := rfl
   have dU : ((bs s).take (k + 1)).all aT = (aT (s[k]'hlt)) := by
    rw [List.take_succ_eq_append_getElem hkb, List.all_append, aI, gp]; simp
   have hx256 : (((s[k]'hlt).toNat : Nat) : Int) < 256 := by have := (s[k]'hlt).toNat_lt; omega
   have hc := AX (s[k]'hlt) w
   cases hv : aT (s[k]'hlt) with
   | false =>
     rw [hv] at hc
     have HC := qh hc
     have aY : (bs s).all aT = false := by
      rw [List.all_eq_false]
      exact ⟨_, List.getElem_mem hkb, by rw [gp, hv]; decide⟩
     obtain rfl : r = false := by rw [← HR.out, aY, Bool.and_false, Bool.and_false]
     clear hc hv dU aY aI gp hkb
     go_wp2_with fail
     refine HC.out.mono ?_
     rintro e w' ⟨rfl, rfl⟩
     go_wp2
     go_ret
     exact ⟨rfl, rfl⟩
   | true =>
     rw [hv] at hc dU
     have HC := qh hc; have HN := qh dU
     clear hc hv dU aI gp hkb
     go_wp2_with fail
     refine HC.out.mono ?_
     rintro e w' ⟨rfl, rfl⟩
     go_wp2
     go_roundw
     case rel => exact ⟨k + 1, by omega, by go_num, HN.out, trivial⟩
     case measure => simp [RowKit.intOf]; omega
  ·obtain rfl : s.size = k := by omega
   have hall2 : (bs s).all aT = true := by
    rw [List.take_of_length_le (by rw [fT]; exact Nat.le_refl _)] at aI
    exact aI
   have hr := HR.out
   rw [hall2, Bool.and_true] at hr
   have HR2 := qh hr
   clear aI hall2 hr HR
   by_cases h1 : 1 ≤ s.size
   ·have yz : (1 : Int) ≤ (s.size : Int) := by omega
    by_cases h2 : s.size ≤ 24
    ·have vJ : (s.size : Int) ≤ 24 := by omega
     obtain rfl : r = true := by rw [← HR2.out]; simp; omega
     clear h1 h2
     go_wp2
     go_ret
     exact ⟨rfl, rfl⟩
    ·have vJ : ¬ (s.size : Int) ≤ 24 := by omega
     obtain rfl : r = false := by rw [← HR2.out]; simp; omega
     clear h1 h2
     go_wp2
     go_ret
     exact ⟨rfl, rfl⟩
   ·have yz : ¬ (1 : Int) ≤ (s.size : Int) := by omega
    obtain rfl : r = false := by rw [← HR2.out]; simp; omega
    clear h1
    go_wp2
    go_ret
    exact ⟨rfl, rfl⟩
end Go.Proofs.YtmepaeahchiglaaGreatDoor
