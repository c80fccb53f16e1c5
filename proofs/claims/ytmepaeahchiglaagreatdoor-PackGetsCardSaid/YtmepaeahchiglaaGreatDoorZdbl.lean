/-
 layer 43: the reference's Get of a project. Conditions: at most 10^9 bytes that can be read. (Printed by refget.py.)
-/
import Derived.Test.YtmepaeahchiglaaGreatDoorZdau
import Derived.Test.YtmepaeahchiglaaGreatDoorZdPjZh
set_option maxRecDepth 20000
set_option maxHeartbeats 8000000
set_option linter.unusedSimpArgs false
set_option linter.unusedVariables false
namespace Go.Proofs.YtmepaeahchiglaaGreatDoor
open Go.RowKit Go.Lib
theorem dw.dm {α : Type} {F : World → (Nat → Prop) → α → List Value → Prop} {k L M : Nat} {T : List Nat} {W W' : World} {l : List α} {v : Value} (hF : iU F) (h : dw F k W (fun b => L ≤ b ∧ b < M) l v) (hc : av T W W') (hM : M ≤ W.heap.size) (ht : ∀ i ∈ T, i < L ∨ M ≤ i) : dw F k W' (fun b => L ≤ b ∧ b < M) l v := by
 have h2 : ∀ q : Addr, L ≤ q.block ∧ q.block < M → W'.cell? q = W.cell? q := fun q hq => by
  unfold World.cell?
  rw [hc.block q.block (by omega) (fun hm => by have := ht _ hm; omega)]
 exact h.imp (fun _ hb => hb) h2 fun _ _ hy => hF _ _ _ _ _ _ (fun _ hb => hb) h2 hy
theorem dw.within {α : Type} {F : World → (Nat → Prop) → α → List Value → Prop} {k : Nat} {S S' : Nat → Prop} {W : World} {l : List α} {v : Value} (hF : iU F) (h : dw F k W S l v) (hs : ∀ b, S b → S' b) : dw F k W S' l v :=
 h.imp hs (fun _ _ => rfl) fun _ _ hy => hF _ _ _ _ _ _ hs (fun _ _ => rfl) hy
theorem Bg (b : List Nat) : iN b = thenR ve (fun x => thenR qa fun h => thenR (someR gG) fun p => thenR (someR Ce) fun e r => some ((⟨x.1, x.2.1, x.2.2, h.tree, h.au, h.on, p, e⟩ : Pj), r)) b := by
 unfold iN ve
 cases h1 : someR bg b with
 | none => rw [thenR_none h1, thenR_none (thenR_none h1)]
 | some q1 =>
   obtain ⟨x1, r1⟩ := q1
   rw [thenR_some h1]
   cases h2 : someR lC r1 with
   | none => rw [thenR_none h2, thenR_none (by rw [thenR_some h1, thenR_none h2])]
   | some q2 =>
     obtain ⟨x2, r2⟩ := q2
     rw [thenR_some h2]
     cases h3 : someR lX r2 with
     | none => rw [thenR_none h3, thenR_none (by rw [thenR_some h1, thenR_some h2, thenR_none h3])]
     | some q3 =>
       obtain ⟨x3, r3⟩ := q3
       have hn : thenR (someR bg) (fun f => thenR (someR lC) fun s => thenR (someR lX) fun m r => some ((f, s, m), r)) b = some ((x1, x2, x3), r3) := by rw [thenR_some h1, thenR_some h2, thenR_some h3]
       rw [thenR_some h3, thenR_some hn]
theorem Gh (w : World) (A : Option Addr) (n c B : Nat) (bs : List Nat) (hr : Reads w B 1 A n (bs.map bv)) (hB : B ≤ w.heap.size) (hn : n ≤ c) (hc : c ≤ maxLen) (hs : n ≤ 1000000000) (hb : ∀ b ∈ bs, b < 256) :
 Calls Tryz.prog 16 #[.slice A n c] w (wL w (mR bs)) := by
 have hbl : bs.length = n := by have := hr.1; simpa using this
 have hb0 := (Below.refl w.heap.size w).alloc (Nat.le_refl _) (.cells ZP 33)
 have hk0 := Blk.new w 33 ZP
 obtain ⟨W0, hW0⟩ : ∃ W, w.alloc (.cells ZP 33) = W := ⟨_, rfl⟩
 rw [hW0] at hb0 hk0
 have hr0 := hr.below (hb0.mono hB)
 have hsz0 : w.heap.size < W0.heap.size := hk0.lt
 obtain ⟨o, ho⟩ : ∃ o, mR bs = o := ⟨_, rfl⟩
 rw [ho]
 have HO := qh ho
 clear ho
 unfold maxLen at hc
 have HW0 := qh hW0; have HB0 := qh hb0; have jg := qh hk0; have NU := qh hr0; have Nj := qh hb; have oU := qh hbl
 have HRW := qh hr
 clear hW0 hb0 hk0 hr0 hb hr hbl
 by_cases h8 : n < 8
 ·obtain rfl : o = (rR, 10) := by rw [← HO.out, vQ (by rw [oU.out]; exact h8)]
  have hI : (n : Int) - 4 < 4 := by omega
  have aD := qh (dB HB0.out jg.out 10)
  obtain ⟨⟨z0, z1, z2, z3⟩, z4, z5, z6, z7⟩ := jg.out.eight
  obtain ⟨⟨q0, q1, q2, q3⟩, q4, q5, q6, q7⟩ := jg.out.free8
  clear h8
  go_enter Tryz.func16, Tryz.ntmps16
  go_wp2_with (rw [HW0.out])
  obtain ⟨⟨d0, d1, d2, d3⟩, d4, d5, d6, d7⟩ := aD.out.1.eight
  exact bodyPost_ret (v := .tuple #[.agg ZP, .int .i64 (10)]) (by simp [results, Tryz.results16, go_sem, d0, d1, d2, d3, d4, d5, d6, d7]) rfl aD.out.2
 ·have hI : ¬ (n : Int) - 4 < 4 := by omega
  obtain ⟨A1, p1, p2⟩ := rq A n c 4 (by omega) hn
  have hp1 : ∀ W : World, (Instr.slice 36 (.slice A n c) none (some (.int .i64 4)) none).run Tryz.prog W = .ok (.slice A1 4 c) W := p1
  have hm4 : ∀ x ∈ bs.take 4, x < 256 := fun x hx => Nj.out x (List.mem_of_mem_take hx)
  have hcv : (convert 36 9 (.slice A1 4 c)).run Tryz.prog W0 = .ok (.string (gH (bs.take 4))) W0 := eX (by have := p2 W0 B _ NU.out; rwa [← List.map_take] at this) hm4
  have hbeq := vW hm4 (b := sK) (by unfold sK; decide)
  rw [show (gH sK).toList = [97, 98, 108, 49] by rw [Lib.toList_data]; rfl] at hbeq
  generalize gH (bs.take 4) = s4 at *
  by_cases Ea : bs.take 4 = sK
  case neg =>
   obtain rfl : o = (rR, 10) := by rw [← HO.out, BS Ea]
   rw [decide_eq_false Ea] at hbeq
   have aD := qh (dB HB0.out jg.out 10)
   obtain ⟨⟨z0, z1, z2, z3⟩, z4, z5, z6, z7⟩ := jg.out.eight
   obtain ⟨⟨q0, q1, q2, q3⟩, q4, q5, q6, q7⟩ := jg.out.free8
   clear h8 Ea hm4 p1 p2
   go_enter Tryz.func16, Tryz.ntmps16
   go_wp2_with (rw [HW0.out])
   obtain ⟨⟨d0, d1, d2, d3⟩, d4, d5, d6, d7⟩ := aD.out.1.eight
   exact bodyPost_ret (v := .tuple #[.agg ZP, .int .i64 (10)]) (by simp [results, Tryz.results16, go_sem, d0, d1, d2, d3, d4, d5, d6, d7]) rfl aD.out.2
  have hgs := @BR bs (by rw [oU.out]; exact h8) Ea
  have hgm := @yD bs (by rw [oU.out]; exact h8) Ea
  rw [oU.out, HO.out] at hgs hgm
  rw [decide_eq_true Ea] at hbeq
  obtain ⟨A2, t1, t2⟩ := zy A n c (n - 4) (by omega) hn
  obtain ⟨A3, u1, u2⟩ := rq A n c (n - 4) (by omega) hn
  have e4 : ((n - 4 : Nat) : Int) = (n : Int) - 4 := by omega
  rw [e4] at t1 u1
  rw [show n - (n - 4) = 4 by omega] at t1 t2
  have hbt : ∀ x ∈ bs.take (n - 4), x < 256 := fun x hx => Nj.out x (List.mem_of_mem_take hx)
  have hbd : ∀ x ∈ bs.drop (n - 4), x < 256 := fun x hx => Nj.out x (List.mem_of_mem_drop hx)
  have hr3 := u2 W0.drew B _ (show Reads W0.drew B 1 A n (bs.map bv) from NU.out)
  rw [← List.map_take] at hr3
  have hsum := uJ A3 (n - 4) c ((bs.take (n - 4)).map UInt8.ofNat) W0.drew (uL (hr3.more (by show B ≤ W0.heap.size; omega)) hbt) (by unfold maxLen; omega)
  rw [tV hbt] at hsum
  have zt := yT hbt
  obtain ⟨sm, hsm⟩ : ∃ x, oD (bs.take (n - 4)) = x := ⟨_, rfl⟩
  rw [hsm] at hsum zt hgs hgm
  have Qs := qh hgs; have U9 := qh hgm
  clear hgs hgm
  have BO := Bc sm zt W0.drew
  have hf4 : ∀ x ∈ eH sm, x < 256 := by
   intro x hx
   unfold eH at hx
   simp only [List.mem_cons, List.not_mem_nil, or_false] at hx
   rcases hx with rfl | rfl | rfl | rfl <;> omega
  have hcd : ∀ W : World, Below w.heap.size w W → (convert 36 9 (.slice A2 4 (c - (n - 4)))).run Tryz.prog W = .ok (.string (gH (bs.drop (n - 4)))) W := fun W hW => eX (by have := t2 W B _ (HRW.out.below (hW.mono hB)); rwa [← List.map_drop] at this) hbd
  have hbeq2 := vW hbd hf4
  have hcf : ∀ (W : World) (A4 : Option Addr) (c4 : Nat), Reads W W.heap.size 1 A4 4 ((eH sm).map bv) → (convert 36 9 (.slice A4 4 c4)).run Tryz.prog W = .ok (.string (gH (eH sm))) W := fun W A4 c4 h => eX h hf4
  obtain ⟨rs, hrs⟩ : ∃ x, decide (bs.drop (n - 4) = eH sm) = x := ⟨_, rfl⟩
  rw [hrs] at hbeq2
  have zT := qh hrs
  obtain ⟨sd, hsd⟩ : ∃ x, gH (bs.drop (n - 4)) = x := ⟨_, rfl⟩
  obtain ⟨sf, YS⟩ : ∃ x, gH (eH sm) = x := ⟨_, rfl⟩
  rw [hsd] at hcd hbeq2
  rw [YS] at hcf hbeq2
  have KO := qh hsum; have La := qh BO; have HCD := qh hcd; have HCF := qh hcf; have Vk := qh hbeq2; have U2 := qh u2
  clear hsum BO hcd hcf hbeq2 t2 u2 hrs hr3 p1 p2 hm4 hsm h8 Ea e4 zt hsd YS hf4
  go_enter Tryz.func16, Tryz.ntmps16
  go_wp2_with (rw [HW0.out])
  refine wp_region_held_drew (S := (fun W => Below w.heap.size w W)) (by kernel_rfl) ?_ (fun ah => ?_)
  ·(try dsimp only)
   first | exact HB0.out.drew | exact HB2.out
  iterate 3
   refine tkH 0 (v := ?_) rfl (fun _ _ _ h => h) ?_ ?_
   rotate_left
   ·intro w hSw; (try dsimp only at hSw); (try simp only [tkN, gq3, gq1]); go_simp <;> with_reducible rfl
   try simp only [tkN, Act.put, gq3, gq1]
  refine wpAnyH_take (i := 3) (v := ?_) rfl (by kernel_rfl) (by kernel_rfl) (by kernel_rfl) (fun _ _ _ h => h) (Or.inl ⟨by rfl, ?_⟩) (by assumption) ?_
  rotate_left
  ·intro w' hSw
   have hcv3 := HCD.out w' hSw
   go_simp <;> with_reducible rfl
  try simp only [Act.put, gq3, gq1]
  iterate 3
   refine tkH 4 (v := ?_) rfl (fun _ _ _ h => h) ?_ ?_
   rotate_left
   ·intro w hSw; (try dsimp only at hSw); (try simp only [tkN, gq3, gq1]); go_simp <;> with_reducible rfl
   try simp only [tkN, Act.put, gq3, gq1]
  refine rdH 7 fun K hK => ?_
  go_simp
  (try go_wp2_with fail)
  refine KO.out.mono ?_
  rintro e w1 ⟨rfl, rfl⟩
  (try go_simp)
  refine hK.out _ _ ?_ (fun aJ => ?_)
  ·(try dsimp only)
   first | exact HB0.out.drew | exact HB2.out
  clear hK K ah; rename _ => ah
  refine rdH 8 fun K hK => ?_
  go_simp
  (try go_wp2_with fail)
  refine La.out.mono ?_
  rintro e w2 ⟨v, rfl, ho4, hb2⟩
  replace ho4 : w2.ownsRow W0.drew.heap.size 5 1 v 4 ((eH sm).map bv) := ho4
  obtain ⟨A4, c4, rfl, h41, h42⟩ := ownsRow_form ho4
  have HB2 := qh (show Below w.heap.size w w2 from HB0.out.drew.trans (hb2.mono (by show w.heap.size ≤ W0.heap.size; omega)))
  have hcv4 := HCF.out w2 A4 c4 (Reads.of_own ho4)
  have zL := qh ((show Blk W0.drew w.heap.size 33 ZP from jg.out).below hb2 (show w.heap.size < W0.drew.heap.size from hsz0))
  clear ho4 hb2 h41 h42
  (try go_simp)
  refine hK.out _ _ ?_ (fun aJ => ?_)
  ·(try dsimp only)
   first | exact HB0.out.drew | exact HB2.out
  clear hK K ah; rename _ => ah
  refine rdH 9 fun K hK => ?_
  go_simp
  refine hK.out _ _ ?_ (fun aJ => ?_)
  ·(try dsimp only)
   first | exact HB0.out.drew | exact HB2.out
  clear hK K ah; rename _ => ah
  have hbeq2 := Vk.out
  refine tkH 10 (v := ?_) rfl (fun _ _ _ h => h) ?_ ?_
  rotate_left
  ·intro w hSw; (try dsimp only at hSw); (try simp only [tkN, gq3, gq1]); go_simp <;> with_reducible rfl
  try simp only [tkN, Act.put, gq3, gq1]
  refine wpAnyH_done (by kernel_rfl) ?_ _
  clear hbeq2 hcv4
  cases rs with
  | false =>
    have hne : bs.drop (n - 4) ≠ eH sm := fun h => by
     have := zT.out
     rw [decide_eq_true h] at this
     cases this
    obtain rfl : o = (rR, 13) := Qs.out hne
    clear hne
    have aD := qh (dB HB2.out zL.out 13)
    obtain ⟨⟨z0, z1, z2, z3⟩, z4, z5, z6, z7⟩ := zL.out.eight
    obtain ⟨⟨q0, q1, q2, q3⟩, q4, q5, q6, q7⟩ := zL.out.free8
    go_wp2
    obtain ⟨⟨d0, d1, d2, d3⟩, d4, d5, d6, d7⟩ := aD.out.1.eight
    exact bodyPost_ret (v := .tuple #[.agg ZP, .int .i64 (13)]) (by simp [results, Tryz.results16, go_sem, d0, d1, d2, d3, d4, d5, d6, d7]) rfl aD.out.2
  | true =>
    have heq : bs.drop (n - 4) = eH sm := of_decide_eq_true zT.out
    have lg := U9.out heq
    have hr5 := U2.out w2 B _ (HRW.out.below (HB2.out.mono hB))
    rw [← List.map_take] at hr5
    have hl5 : (bs.take (n - 4)).length = n - 4 := by rw [List.length_take, oU.out]; omega
    generalize bs.take (n - 4) = all at *
    have hg : w.heap.size < w2.heap.size := zL.out.lt
    have hrs4 : RS (w2.alloc (.cells #[.slice A3 (n - 4) c, .int .i64 4, .bool false] 107)) w2.heap.size all 4 false :=
     ⟨A3, c, by rw [hl5]; exact Blk.new w2 _ _, by rw [hl5]; exact (hr5.more (by omega)).alloc (Nat.le_refl _) _, by omega, by omega, by unfold maxLen; omega, by omega, hbt⟩
    have hb4 := HB2.out.alloc (by omega) (.cells #[.slice A3 (n - 4) c, .int .i64 4, .bool false] 107)
    have hk4 := zL.out.alloc (.cells #[.slice A3 (n - 4) c, .int .i64 4, .bool false] 107)
    have hsz4 : (w2.alloc (.cells #[.slice A3 (n - 4) c, .int .i64 4, .bool false] 107)).heap.size = w2.heap.size + 1 := World.size_alloc _ _
    obtain ⟨w4, CJ⟩ : ∃ W, w2.alloc (.cells #[.slice A3 (n - 4) c, .int .i64 4, .bool false] 107) = W := ⟨_, rfl⟩
    rw [CJ] at hrs4 hb4 hk4 hsz4
    have HC := qh (CY w4 w2.heap.size 4 all false hrs4)
    have tK := qh hb4; have ZA := qh hk4; have FC := qh CJ; have VP := qh hl5; have M5 := qh lg; have HBT := qh hbt
    have hlt4 : n - 4 ≤ all.length := Nat.le_of_eq hl5.symm
    clear hrs4 hb4 hk4 CJ hr5 heq lg Qs U9 zT hl5 hbt hbd
    go_wp2_with fail
    rw [FC.out]
    refine HC.out.mono ?_
    rintro e w5 ⟨⟨l1, l2, l3⟩, cs, at5, b5, rfl, hnm, hc5, hr5, -, g5⟩
    obtain ⟨v1, v2, v3, rfl, x1, x2, x3⟩ := hnm
    obtain ⟨B1, b1, rfl⟩ := x1.form; obtain ⟨B2, b2, rfl⟩ := x2.form; obtain ⟨B3, b3, rfl⟩ := x3.form
    have hsz5 := hc5.size
    have Oa := qh (show eT (l1, l2, l3) b5 (all.drop at5) (ve (all.drop 4)) from g5 rfl)
    have mh := qh (tK.out.trans (hc5.below (B := w.heap.size) (by intro i hi; rw [List.mem_singleton.1 hi]; omega) (tK.out.size)))
    have yN := qh (ZA.out.aB hc5 (by simp only [List.mem_singleton]; omega))
    have hs6 : qz w4 (w5.alloc (.cells #[.slice B1 l1.length b1, .slice B2 l2.length b2, .slice B3 l3.length b3, .slice none 0 0, .slice none 0 0, .slice none 0 0, .slice none 0 0, .slice none 0 0] 33)) w2.heap.size at5 all b5 w5.heap.size 33 #[.slice B1 l1.length b1, .slice B2 l2.length b2, .slice B3 l3.length b3, .slice none 0 0, .slice none 0 0, .slice none 0 0, .slice none 0 0, .slice none 0 0] := ⟨hc5.alloc _, hr5.alloc _, Blk.new w5 _ _, by omega, hsz5⟩
    have hb6 := mh.out.alloc mh.out.size (.cells #[.slice B1 l1.length b1, .slice B2 l2.length b2, .slice B3 l3.length b3, .slice none 0 0, .slice none 0 0, .slice none 0 0, .slice none 0 0, .slice none 0 0] 33)
    have hk6 := yN.out.alloc (.cells #[.slice B1 l1.length b1, .slice B2 l2.length b2, .slice B3 l3.length b3, .slice none 0 0, .slice none 0 0, .slice none 0 0, .slice none 0 0, .slice none 0 0] 33)
    have hsz6 : (w5.alloc (.cells #[.slice B1 l1.length b1, .slice B2 l2.length b2, .slice B3 l3.length b3, .slice none 0 0, .slice none 0 0, .slice none 0 0, .slice none 0 0, .slice none 0 0] 33)).heap.size = w5.heap.size + 1 := World.size_alloc _ _
    have hc6 := (av.refl [] w5).alloc (.cells #[.slice B1 l1.length b1, .slice B2 l2.length b2, .slice B3 l3.length b3, .slice none 0 0, .slice none 0 0, .slice none 0 0, .slice none 0 0, .slice none 0 0] 33)
    obtain ⟨w6, OP⟩ : ∃ W, w5.alloc (.cells #[.slice B1 l1.length b1, .slice B2 l2.length b2, .slice B3 l3.length b3, .slice none 0 0, .slice none 0 0, .slice none 0 0, .slice none 0 0, .slice none 0 0] 33) = W := ⟨_, rfl⟩
    rw [OP] at hs6 hb6 hk6 hsz6 hc6
    have kX := qh (dw.dm (aa _) x1 hc6 (Nat.le_refl _) (by simp)); have ql := qh (dw.dm (aa _) x2 hc6 (Nat.le_refl _) (by simp)); have zD := qh (dw.dm (aa _) x3 hc6 (Nat.le_refl _) (by simp))
    have Qm := qh hs6; have Nn := qh hb6; have Im := qh hk6; have VC := qh OP
    have HC := qh (Gg w6 w2.heap.size at5 all b5 hs6.rd)
    clear x1 x2 x3 hc5 hr5 g5 hs6 hb6 hk6 hc6 OP
    go_wp2_with fail
    rw [VC.out]
    clear VC FC
    refine HC.out.mono ?_
    rintro e w7 ⟨⟨l4, l5, l6⟩, cs, at7, b7, rfl, ⟨v4, v5, v6, rfl, x4, x5, x6⟩, hc7, hr7, m7, g7⟩
    obtain ⟨B4, b4, rfl⟩ := x4.form; obtain ⟨Lr, Fq, rfl⟩ := x5.form; obtain ⟨B6, b6, rfl⟩ := x6.form
    have hsz7 := hc7.size
    have hs7 := Qm.out.aB hc7 hr7
    have YN := hs7.bb.cell 3; have YM := hs7.bb.cell 4; have YL := hs7.bb.cell 5
    have y3 := hs7.bb.frozen 3; have y4 := hs7.bb.frozen 4; have y5 := hs7.bb.frozen 5
    simp only [gq2] at YN YM YL
    have hs8 := ((hs7.set_ 3 (.slice B4 l4.length b4)).set_ 4 (.slice Lr l5.length Fq)).set_ 5 (.slice B6 l6.length b6)
    simp only [gq1] at hs8
    have aC : av [w5.heap.size] w7 (((w7.setCell ⟨w5.heap.size, 3, none⟩ (.slice B4 l4.length b4)).setCell ⟨w5.heap.size, 4, none⟩ (.slice Lr l5.length Fq)).setCell ⟨w5.heap.size, 5, none⟩ (.slice B6 l6.length b6)) := (((av.refl [w5.heap.size] w7).setCell (p := ⟨w5.heap.size, 3, none⟩) (.inl (by simp)) (.slice B4 l4.length b4)).setCell (p := ⟨w5.heap.size, 4, none⟩) (.inl (by simp)) (.slice Lr l5.length Fq)).setCell (p := ⟨w5.heap.size, 5, none⟩) (.inl (by simp)) (.slice B6 l6.length b6)
    have hsz8 := aC.size
    obtain ⟨w8, Xa⟩ : ∃ W, ((w7.setCell ⟨w5.heap.size, 3, none⟩ (.slice B4 l4.length b4)).setCell ⟨w5.heap.size, 4, none⟩ (.slice Lr l5.length Fq)).setCell ⟨w5.heap.size, 5, none⟩ (.slice B6 l6.length b6) = W := ⟨_, rfl⟩
    rw [Xa] at hs8 aC hsz8
    have hc78 : av [w2.heap.size, w5.heap.size] w6 w8 := (hc7.mono (by simp)).trans (aC.mono (by simp))
    have kX := qh (kX.out.dm (aa _) hc78 (by omega) (by simp; omega)); have ql := qh (ql.out.dm (aa _) hc78 (by omega) (by simp; omega)); have zD := qh (zD.out.dm (aa _) hc78 (by omega) (by simp; omega))
    have KH := qh (x4.dm (aa _) aC (Nat.le_refl _) (by intro i hi; rw [List.mem_singleton.1 hi]; omega)); have KG := qh (x5.dm aX aC (Nat.le_refl _) (by intro i hi; rw [List.mem_singleton.1 hi]; omega)); have KF := qh (x6.dm cO aC (Nat.le_refl _) (by intro i hi; rw [List.mem_singleton.1 hi]; omega))
    have Qu := qh (Nn.out.trans (hc78.below (B := w.heap.size) (by intro i hi; simp at hi; omega) (Nn.out.size)))
    have Zz := qh (Im.out.aB hc78 (by simp; omega))
    have Ql := qh hs8; have Zj := qh Xa; have M7 := qh m7; have G7 := qh g7
    have HC := qh (uk w8 w2.heap.size at7 all b7 hs8.rd)
    clear hc7 hr7 m7 g7 x4 x5 x6 hs7 hs8 aC hc78 Xa Qm Nn Im mh yN ZA tK
    go_wp2_with fail
    rw [Zj.out]
    clear Zj YN YM YL y3 y4 y5
    refine HC.out.mono ?_
    rintro e w9 ⟨l7, v7, at9, b9, rfl, x7, hc9, hr9, m9, g9⟩
    obtain ⟨B7, Kw, rfl⟩ := x7.form
    have hsz9 := hc9.size
    have hs9 := Ql.out.aB hc9 hr9
    have YK := hs9.bb.cell 6; have y6 := hs9.bb.frozen 6
    simp only [gq2] at YK
    have hs10 := hs9.set_ 6 (.slice B7 l7.length Kw)
    simp only [gq1] at hs10
    have aC : av [w5.heap.size] w9 (w9.setCell ⟨w5.heap.size, 6, none⟩ (.slice B7 l7.length Kw)) := (av.refl [w5.heap.size] w9).setCell (p := ⟨w5.heap.size, 6, none⟩) (.inl (by simp)) (.slice B7 l7.length Kw)
    have hsz10 := aC.size
    obtain ⟨w10, OQ⟩ : ∃ W, w9.setCell ⟨w5.heap.size, 6, none⟩ (.slice B7 l7.length Kw) = W := ⟨_, rfl⟩
    rw [OQ] at hs10 aC hsz10
    have hc910 : av [w2.heap.size, w5.heap.size] w8 w10 := (hc9.mono (by simp)).trans (aC.mono (by simp))
    have kX := qh (kX.out.dm (aa _) hc910 (by omega) (by simp; omega)); have ql := qh (ql.out.dm (aa _) hc910 (by omega) (by simp; omega)); have zD := qh (zD.out.dm (aa _) hc910 (by omega) (by simp; omega))
    have KH := qh (KH.out.dm (aa _) hc910 (by omega) (by simp; omega)); have KG := qh (KG.out.dm aX hc910 (by omega) (by simp; omega)); have KF := qh (KF.out.dm cO hc910 (by omega) (by simp; omega))
    have Pf := qh (dw.dm dL x7 aC (Nat.le_refl _) (by intro i hi; rw [List.mem_singleton.1 hi]; omega))
    have Lj := qh (Qu.out.trans (hc910.below (B := w.heap.size) (by intro i hi; simp at hi; omega) (Qu.out.size)))
    have U5 := qh (Zz.out.aB hc910 (by simp; omega))
    have Ue := qh hs10; have TW := qh OQ; have M9 := qh m9; have G9 := qh g9
    have HC := qh (bZ w10 w2.heap.size at9 all b9 hs10.rd)
    clear hc9 hr9 m9 g9 x7 hs9 hs10 aC hc910 OQ Ql Qu Zz
    go_wp2_with fail
    rw [TW.out]
    clear TW YK y6
    refine HC.out.mono ?_
    rintro e w11 ⟨n8, at11, b11, rfl, hn11, -, hc11, hr11, m11, g11⟩
    have hn30 : n8 ≤ 1073741824 := by have := hr11.all; omega
    have hsz11 := hc11.size
    have hs11 := Ue.out.aB hc11 hr11
    have NJ : av [w2.heap.size, w5.heap.size] w10 w11 := hc11.mono (by simp)
    have Ud := qh hs11; have Vh := qh NJ; have VA := qh m11; have ZL := qh g11
    clear hs11 hc11 NJ hr11 m11 g11 hn11 HC Ue
    go_wp2_with fail
    refine sget1 _ (fun _ _ _ _ _ h => h) w4 w11 w2.heap.size n8 at11 w5.heap.size all b11 _ _ _ _ _ _ _ _ _ _ _ _ _ _ _ _ _ _ _ _ _ _ _ _ _ _ _ _ _ _ _ _ _ _ _ _ _ _ _ _ _ _ _ _ _ _ _ _ _ _ _ _ _ _ _ _ _ _ _ _ _ _ _ _ _ _ _ _ _ _ _ _ _ _ _ _ _ _ _ _ _ _ _ _ _ _ _ _ _ _ _ _ _ _ _ _ _ hn30 Ud.out (by omega) ?_
    intro e8 e9 e51 e52 e53 e54 e55 e56 e57 e58 e59 e60 e61 e62 e63 e64 e65 e66 e67 e68 e69 e70 e71 e72 e73 w12 at12 b12 l8 v8 hE
    obtain ⟨B8, b8, rfl⟩ := hE.sl.form
    have hs12 := hE.st
    simp only [gq1] at hs12
    have hsz12 := hE.ch.size
    have hc12 : av [w2.heap.size, w5.heap.size] w10 w12 := Vh.out.trans hE.ch
    have kX := qh (kX.out.dm (aa _) hc12 (by omega) (by simp; omega)); have ql := qh (ql.out.dm (aa _) hc12 (by omega) (by simp; omega)); have zD := qh (zD.out.dm (aa _) hc12 (by omega) (by simp; omega))
    have KH := qh (KH.out.dm (aa _) hc12 (by omega) (by simp; omega)); have KG := qh (KG.out.dm aX hc12 (by omega) (by simp; omega)); have KF := qh (KF.out.dm cO hc12 (by omega) (by simp; omega))
    have Pf := qh (Pf.out.dm dL hc12 (by omega) (by simp; omega))
    have Xy := qh hE.sl
    have Np := qh (Lj.out.trans (hc12.below (B := w.heap.size) (by intro i hi; simp at hi; omega) (Lj.out.size)))
    have CB := qh (U5.out.aB hc12 (by simp; omega))
    have qb : eT (⟨l1, l2, l3, l4, l5, l6, l7, l8⟩ : Pj) b12 (all.drop at12) (iN (all.drop 4)) := by
     rw [Bg]
     have m12 : b11 = true → b12 = true := hE.inv.1
     exact ak Oa.out (fun k => m12 (VA.out (M9.out (M7.out k)))) fun k => ak (G7.out k) (fun k => m12 (VA.out (M9.out k))) fun k => ak (G9.out k) (fun k => m12 (VA.out k)) fun k => ak (hE.got ZL.out k) id fun k => dO k
    obtain ⟨A9, c9, ⟨c0, c1, c2⟩, -, -, -, -⟩ := hs12.rd.cells
    have ha12 := hs12.rd.all.2.1
    have xA := qh hs12; have Nc := qh qb
    clear hE hs12 hc12 qb Ud Vh M7 M9 VA G7 G9 ZL Oa Lj U5
    cases b12 with
    | true =>
      have hnone : iN (all.drop 4) = none := by
       cases hp : iN (all.drop 4) with
       | none => rfl
       | some q => obtain ⟨y, r⟩ := q; have h := Nc.out; rw [hp] at h; exact absurd h.2.1 (by decide)
      obtain rfl : o = (rR, 10) := by rw [M5.out, hnone]; rfl
      have aD := qh (dB Np.out CB.out 10)
      obtain ⟨⟨z0, z1, z2, z3⟩, z4, z5, z6, z7⟩ := CB.out.eight
      obtain ⟨⟨q0, q1, q2, q3⟩, q4, q5, q6, q7⟩ := CB.out.free8
      clear hnone
      go_wp2
      obtain ⟨⟨d0, d1, d2, d3⟩, d4, d5, d6, d7⟩ := aD.out.1.eight
      exact bodyPost_ret (v := .tuple #[.agg ZP, .int .i64 (10)]) (by simp [results, Tryz.results16, go_sem, d0, d1, d2, d3, d4, d5, d6, d7]) rfl aD.out.2
    | false =>
      have hsome : iN (all.drop 4) = some ((⟨l1, l2, l3, l4, l5, l6, l7, l8⟩ : Pj), all.drop at12) := by
       cases hp : iN (all.drop 4) with
       | none => have h := Nc.out; rw [hp] at h; cases h
       | some q => obtain ⟨y, r⟩ := q; have h := Nc.out; rw [hp] at h; obtain ⟨rfl, -, rfl⟩ := h; rfl
      have lg := M5.out
      rw [hsome] at lg
      obtain ⟨⟨hpz, -⟩, -, -⟩ := qF (all.drop 4) _ _ (fun x hx => HBT.out x (List.mem_of_mem_drop hx)) hsome
      have Qe := hpz.rd (by rw [List.length_drop, VP.out]; omega)
      clear hpz hsome
      by_cases ha : at12 = n - 4
      case neg =>
       have hdr : all.drop at12 ≠ [] := fun h => ha (by have := List.drop_eq_nil_iff.1 h; rw [VP.out] at this ha12; omega)
       obtain rfl : o = (rR, 10) := by
        rw [lg]
        cases hd : all.drop at12 with
        | nil => exact absurd hd hdr
        | cons y r => rfl
       have Y4 : ((at12 : Int) != (n : Int) - 4) = true := by rw [bne_iff_ne]; omega
       have aD := qh (dB Np.out CB.out 10)
       obtain ⟨⟨z0, z1, z2, z3⟩, z4, z5, z6, z7⟩ := CB.out.eight
       obtain ⟨⟨q0, q1, q2, q3⟩, q4, q5, q6, q7⟩ := CB.out.free8
       clear hdr lg Qe
       go_wp2
       obtain ⟨⟨d0, d1, d2, d3⟩, d4, d5, d6, d7⟩ := aD.out.1.eight
       exact bodyPost_ret (v := .tuple #[.agg ZP, .int .i64 (10)]) (by simp [results, Tryz.results16, go_sem, d0, d1, d2, d3, d4, d5, d6, d7]) rfl aD.out.2
      have hdr : all.drop at12 = [] := List.drop_eq_nil_iff.2 (by rw [VP.out, ha]; exact Nat.le_refl _)
      rw [hdr] at lg
      have Y4 : ((at12 : Int) != (n : Int) - 4) = false := by rw [bne_eq_false_iff_eq]; omega
      obtain ⟨x, hx⟩ : ∃ x, iX ⟨l1, l2, l3, l4, l5, l6, l7, l8⟩ = x := ⟨_, rfl⟩
      have wY : o = if x = 0 then (⟨l1, l2, l3, l4, l5, l6, l7, l8⟩, 0) else (rR, x) := by rw [lg]; show (if iX _ = 0 then _ else (rR, iX _)) = _; rw [hx]
      have bV : dF w12 (fun b => w.heap.size < b ∧ b < w12.heap.size) ⟨l1, l2, l3, l4, l5, l6, l7, l8⟩ [.slice B1 l1.length b1, .slice B2 l2.length b2, .slice B3 l3.length b3, .slice B4 l4.length b4, .slice Lr l5.length Fq, .slice B6 l6.length b6, .slice B7 l7.length Kw, .slice B8 l8.length b8] :=
       ⟨_, _, _, _, _, _, _, _, rfl, kX.out.within (aa _) (fun b hb => ⟨by omega, by omega⟩), ql.out.within (aa _) (fun b hb => ⟨by omega, by omega⟩), zD.out.within (aa _) (fun b hb => ⟨by omega, by omega⟩), KH.out.within (aa _) (fun b hb => ⟨by omega, by omega⟩), KG.out.within aX (fun b hb => ⟨by omega, by omega⟩), KF.out.within cO (fun b hb => ⟨by omega, by omega⟩), Pf.out.within dL (fun b hb => ⟨by omega, by omega⟩), Xy.out.within jY (fun b hb => ⟨by omega, by omega⟩)⟩
      have hck := Di w12 w12.heap.size _ _ (bV.toC (fun b hb => hb.2)) (Nat.le_refl _) Qe
      rw [hx] at hck
      have Iq := qh hck; have UF := qh wY; have nT := qh bV; have HX := qh hx
      have g0 := xA.out.bb.cell 0; have g1 := xA.out.bb.cell 1; have g2 := xA.out.bb.cell 2; have g3 := xA.out.bb.cell 3; have g4 := xA.out.bb.cell 4; have g5 := xA.out.bb.cell 5; have g6 := xA.out.bb.cell 6; have g7 := xA.out.bb.cell 7
      simp only [gq2] at g0 g1 g2 g3 g4 g5 g6 g7
      clear hck lg wY bV hx hdr M5 Nc Qe
      go_wp2_with fail
      refine Iq.out.mono ?_
      rintro e w13 ⟨rfl, hb13⟩
      have P8 := qh (Np.out.trans (hb13.mono Np.out.size)); have Hw := qh (CB.out.below hb13 CB.out.lt)
      have XX := qh (xA.out.bb.below hb13 xA.out.bb.lt)
      have nT := qh (dF.keep (S' := fun b => w.heap.size < b ∧ b < w12.heap.size) (fun _ hb => hb) (fun q hq => hb13.cell (p := q) hq.2) nT.out)
      have hsz13 := hb13.size
      clear hb13 g0 g1 g2 g3 g4 g5 g6 g7 Iq
      by_cases h0 : x = 0
      ·obtain rfl : o = (⟨l1, l2, l3, l4, l5, l6, l7, l8⟩, 0) := by rw [UF.out, if_pos h0]
       have hx0 : (x != (0 : Int)) = false := by rw [h0]; rfl
       obtain ⟨⟨m0, m1, m2, m3⟩, m4, m5, m6, m7⟩ := XX.out.eight
       obtain ⟨⟨z0, z1, z2, z3⟩, z4, z5, z6, z7⟩ := Hw.out.eight
       obtain ⟨⟨q0, q1, q2, q3⟩, q4, q5, q6, q7⟩ := Hw.out.free8
       have hs8 := Hw.out.st8 (.slice B1 l1.length b1) (.slice B2 l2.length b2) (.slice B3 l3.length b3) (.slice B4 l4.length b4) (.slice Lr l5.length Fq) (.slice B6 l6.length b6) (.slice B7 l7.length Kw) (.slice B8 l8.length b8)
       have hc8 := av.st8 w13 w.heap.size (.slice B1 l1.length b1) (.slice B2 l2.length b2) (.slice B3 l3.length b3) (.slice B4 l4.length b4) (.slice Lr l5.length Fq) (.slice B6 l6.length b6) (.slice B7 l7.length Kw) (.slice B8 l8.length b8)
       have BK := hc8.size
       have hpf8 : dF (st8 w13 w.heap.size (.slice B1 l1.length b1) (.slice B2 l2.length b2) (.slice B3 l3.length b3) (.slice B4 l4.length b4) (.slice Lr l5.length Fq) (.slice B6 l6.length b6) (.slice B7 l7.length Kw) (.slice B8 l8.length b8)) (dW w (st8 w13 w.heap.size (.slice B1 l1.length b1) (.slice B2 l2.length b2) (.slice B3 l3.length b3) (.slice B4 l4.length b4) (.slice Lr l5.length Fq) (.slice B6 l6.length b6) (.slice B7 l7.length Kw) (.slice B8 l8.length b8))) ⟨l1, l2, l3, l4, l5, l6, l7, l8⟩ _ :=
        dF.keep (S := fun b => w.heap.size < b ∧ b < w12.heap.size) (fun b hb => ⟨by omega, by omega⟩) (fun q hq => by
         unfold World.cell?
         rw [hc8.block q.block (by have := hq.2; omega) (by have := hq.1; simp only [List.mem_singleton]; omega)]) nT.out
       have ay : wL w (⟨l1, l2, l3, l4, l5, l6, l7, l8⟩, 0) (.returned (.tuple #[.agg #[.slice B1 l1.length b1, .slice B2 l2.length b2, .slice B3 l3.length b3, .slice B4 l4.length b4, .slice Lr l5.length Fq, .slice B6 l6.length b6, .slice B7 l7.length Kw, .slice B8 l8.length b8], .int .i64 0])) (st8 w13 w.heap.size (.slice B1 l1.length b1) (.slice B2 l2.length b2) (.slice B3 l3.length b3) (.slice B4 l4.length b4) (.slice Lr l5.length Fq) (.slice B6 l6.length b6) (.slice B7 l7.length Kw) (.slice B8 l8.length b8)) :=
        ⟨_, rfl, hpf8, P8.out.trans (hc8.below (by simp) (P8.out.size))⟩
       have Ql := qh hs8; have aD := qh ay
       clear hs8 hc8 BK hpf8 ay h0
       go_wp2
       obtain ⟨⟨d0, d1, d2, d3⟩, d4, d5, d6, d7⟩ := Ql.out.eight
       exact bodyPost_ret (by simp [results, Tryz.results16, go_sem, d0, d1, d2, d3, d4, d5, d6, d7]) rfl aD.out
      ·obtain rfl : o = (rR, x) := by rw [UF.out, if_neg h0]
       have hx0 : (x != (0 : Int)) = true := by rw [bne_iff_ne]; exact h0
       have aD := qh (dB P8.out Hw.out x)
       obtain ⟨⟨z0, z1, z2, z3⟩, z4, z5, z6, z7⟩ := Hw.out.eight
       obtain ⟨⟨q0, q1, q2, q3⟩, q4, q5, q6, q7⟩ := Hw.out.free8
       clear h0
       go_wp2
       obtain ⟨⟨d0, d1, d2, d3⟩, d4, d5, d6, d7⟩ := aD.out.1.eight
       exact bodyPost_ret (v := .tuple #[.agg ZP, .int .i64 (x)]) (by simp [results, Tryz.results16, go_sem, d0, d1, d2, d3, d4, d5, d6, d7]) rfl aD.out.2
theorem Dr (w : World) (t : TypeId) : (w.alloc (.cells #[] t)).ownsRow w.heap.size t 1 (.slice (some ⟨w.heap.size, 0, none⟩) 0 0) 0 [] :=
 ⟨rfl, .inr ⟨w.heap.size, 0, #[], rfl, Nat.le_refl _, heap_alloc_new w _, by omega, by omega, by simp, by simp⟩⟩
theorem Me {w : World} {base q n c k : Nat} {e : TypeId} {xs : List Value} (h : w.ownsRow base e 1 (.slice (some ⟨q, 0, none⟩) n c) n xs) (u : Value) : (w.setCell ⟨q, k, none⟩ u).ownsRow base e 1 (.slice (some ⟨q, 0, none⟩) n c) n (xs.set k u) := by
 rcases h.2 with ⟨h', _⟩ | ⟨q', cap, cur, h', hb, hg, h3, h4, hs, ht⟩
 ·simp at h'
 ·simp only [Value.slice.injEq, Option.some.injEq, Addr.mk.injEq, and_true, true_and] at h'
  obtain ⟨rfl, rfl⟩ := h'
  refine ⟨by simpa using h.1, .inr ⟨q, c, cur.setIfInBounds k u, rfl, hb, Blk.set_ hg k u, h3, h4, by simpa using hs, ?_⟩⟩
  rw [Array.toList_setIfInBounds, Nat.mul_one, List.take_set]
  rw [Nat.mul_one] at ht; rw [ht]
theorem vV (A : Option Addr) (n c : Nat) (xs : List Value) (w : World) (K : Nat) (hr : Reads w K 1 A n xs) (h1 : ∀ u ∈ xs, u.oneCell' = true) (hK : K ≤ w.heap.size) (hn : n ≤ 100000) :
 Calls Tryz.prog 13 #[.slice A n c] w fun e w' => ∃ v, e = .returned v ∧ w'.ownsRow w.heap.size 5 1 v n xs ∧ Below w.heap.size w w' := by
 obtain ⟨i0, hi, hz0, hz1, hz2⟩ := info_parts (show (Tryz.prog.info? 5).map (fun i => (i.zero, i.size, i.bytes)) = some (some (.int .u8 0), 1, 1) by kernel_rfl)
 have hl := hr.1
 have hnil := fun (W : World) (a : Option Addr) (n c : Nat) => Lib.run_eql_slice_nil (P := Tryz.prog) W 36 5 a n c 0 0 Tryz.underlying36
 rcases A with _ | ad
 ·have h0 : n = 0 := by
   rcases Nat.eq_zero_or_pos n with h | h
   ·exact h
   ·obtain ⟨_, h', _⟩ := hr.2 h; cases h'
  subst h0
  obtain rfl : xs = [] := List.eq_nil_of_length_eq_zero (by omega)
  go_enter Tryz.func13, Tryz.ntmps13
  go_wp2
  go_ret
  exact ⟨_, rfl, World.ownsRow_nil _ _ _ _, Below.refl _ _⟩
 ·have hown := Dr w 5
  have hr' := (hr.more hK).alloc (Nat.le_refl _) (.cells #[] 5)
  go_enter Tryz.func13, Tryz.ntmps13
  go_wp2_with (at_builtin; refine wpList_append_any _ rfl _ _ _ rfl w.heap.size 5 i0 (.int .u8 0) 1 1 Tryz.underlying36 hi hz0 hz1 hz2 rfl (by decide) _ _ _ rfl hown w.heap.size _ _ _ xs rfl hr' h1 (by unfold maxLen; omega) (by omega) (by simp) ?_; intro v' w1 ai ag _)
  have hb1 : Below w.heap.size w w1 := ((Below.refl _ w).alloc (Nat.le_refl _) _).grown ag (by simp) (fun g hg => (hown.lt g hg).1)
  clear ag
  go_ret
  exact ⟨_, rfl, by simpa using ai, hb1⟩
end Go.Proofs.YtmepaeahchiglaaGreatDoor
