/-
 layer 25: Same, two times the same history. Conditions: histories that can be read.
-/
import Derived.Test.YtmepaeahchiglaaGreatDoorZdan
set_option maxRecDepth 20000
set_option maxHeartbeats 8000000
set_option linter.unusedSimpArgs false
set_option linter.unusedVariables false
namespace Go.Proofs.YtmepaeahchiglaaGreatDoor
open Go.RowKit Go.Lib
theorem aP.mv {α : Type} {P : World → Nat → α → List Value → Prop} {k B : Nat} {w W : World} {l : List α} {v : Value} (h : aP P k w B l v) (hb : Below w.heap.size w W) (hB : B ≤ w.heap.size) (hP : ∀ x cs, P w B x cs → P W B x cs) : aP P k W B l v :=
 aP.plain (fun q hq => hb.cell (p := q) (by omega)) h hP
theorem yZ (w : World) (B : Nat) (t : List Nd) (ls : List Lw) (on : List (List Int)) (v4 v5 v6 v4' VX VW : Value) (h4 : aP Ho 2 w B t v4) (h5 : aP fI 18 w B ls v5) (h6 : aP si 1 w B on v6) (h4' : aP Ho 2 w B t v4') (h5' : aP fI 18 w B ls VX) (h6' : aP si 1 w B on VW)
 (hB : B ≤ w.heap.size) (hnm : ∀ x ∈ ls, x.name.size ≤ maxLen) :
 Calls Tryz.prog 59 #[.agg #[v4, v5, v6], .agg #[v4', VX, VW]] w fun e w' => e = .returned (.bool true) ∧ Below w.heap.size w w' := by
 obtain ⟨A4, m4, c4, rfl, n4⟩ := h4.form
 obtain ⟨A5, m5, c5, rfl, n5⟩ := h5.form
 obtain ⟨A6, m6, c6, rfl, n6⟩ := h6.form
 obtain ⟨Ls, vv, Ci, rfl, n4'⟩ := h4'.form
 obtain ⟨LH, zO, CK, rfl, n5'⟩ := h5'.form
 obtain ⟨LG, tq, zP, rfl, n6'⟩ := h6'.form
 obtain rfl : vv = m4 := by rw [n4, n4']
 obtain rfl : zO = m5 := by rw [n5, n5']
 obtain rfl : tq = m6 := by rw [n6, n6']
 obtain ⟨-, hm4, hx4⟩ := h4.len
 obtain ⟨-, hm6, hx6⟩ := h6.len
 unfold maxLen at hx4 hx6
 have b1 := (Blk.new w 29 #[.slice A4 vv c4, .slice A5 zO c5, .slice A6 tq c6]).alloc (.cells #[.slice Ls vv Ci, .slice LH zO CK, .slice LG tq zP] 29)
 have b2 := Blk.new (w.alloc (.cells #[.slice A4 vv c4, .slice A5 zO c5, .slice A6 tq c6] 29)) 29 #[.slice Ls vv Ci, .slice LH zO CK, .slice LG tq zP]
 rw [World.size_alloc] at b2
 have aF := ((Below.refl w.heap.size w).alloc (Nat.le_refl _) (.cells #[.slice A4 vv c4, .slice A5 zO c5, .slice A6 tq c6] 29)).alloc (by simp) (.cells #[.slice Ls vv Ci, .slice LH zO CK, .slice LG tq zP] 29)
 obtain ⟨Z0, lZ⟩ : ∃ Z, (w.alloc (.cells #[.slice A4 vv c4, .slice A5 zO c5, .slice A6 tq c6] 29)).alloc (.cells #[.slice Ls vv Ci, .slice LH zO CK, .slice LG tq zP] 29) = Z := ⟨_, rfl⟩
 have hsz0 : Z0.heap.size = w.heap.size + 1 + 1 := by rw [← lZ]; simp
 rw [lZ] at b1 b2 aF
 have g4 := h4.mv aF hB fun _ _ h => h
 have g4' := h4'.mv aF hB fun _ _ h => h
 have g5 := h5.mv aF hB fun _ _ h => h.below (aF.mono hB)
 have RY := h5'.mv aF hB fun _ _ h => h.below (aF.mono hB)
 have g6 := h6.mv aF hB fun _ _ h => si.keep (fun q hq => aF.cell (p := q) (by omega)) h
 have Za := h6'.mv aF hB fun _ _ h => si.keep (fun q hq => aF.cell (p := q) (by omega)) h
 have OU : B ≤ Z0.heap.size := by omega
 have NH := Ei Z0 B ls _ _ g5 RY OU hnm
 have HZ0 := qh lZ; have bL := qh aF; have HB1 := qh b1; have HB2 := qh b2; have G4 := qh g4; have G4' := qh g4'; have G6 := qh g6; have G6' := qh Za; have U1 := qh NH; have N4 := qh n4; have N6 := qh n6
 have y0 := b1.cell 0; have y1 := b1.cell 1; have y2 := b1.cell 2; have z0 := b2.cell 0; have z1 := b2.cell 1; have z2 := b2.cell 2
 simp only [gq2] at y0 y1 y2 z0 z1 z2
 clear lZ aF b1 b2 g4 g4' g5 RY g6 Za h4 h5 h6 h4' h5' h6' NH n4 n5 n6 n4' n5' n6' hnm
 go_enter Tryz.func59, Tryz.ntmps59
 go_wp2_with (rw [HZ0.out])
 refine U1.out.mono ?_
 rintro e w1 ⟨rfl, hb1⟩
 have H1 := qh hb1
 clear hb1 y0 y1 y2 z0 z1 z2
 go_wp2
 go_loopw [5] (fun i wr => ∃ k : Nat, k ≤ vv ∧ i = .int .i64 k ∧ Below Z0.heap.size Z0 wr) (fun i _ => vv - (RowKit.intOf i).toNat)
 case atStart => exact ⟨0, by omega, rfl, H1.out⟩
 case round =>
  obtain ⟨k, hk, rfl, hbw⟩ := hrel
  have y0 := (HB1.out.below hbw (by omega)).cell 0; have y2 := (HB1.out.below hbw (by omega)).cell 2
  have z0 := (HB2.out.below hbw (by omega)).cell 0; have z2 := (HB2.out.below hbw (by omega)).cell 2
  simp only [gq2] at y0 y2 z0 z2
  have aQ := qh hbw
  clear hbw
  by_cases hlt : k < vv
  ·have bB : k < t.length := by have := N4.out; omega
   have cB : (k : Int) < (vv : Int) := by omega
   obtain ⟨ad, cs, rfl, hP, hc0, aC, -⟩ := aP.at_ (fun x cs h => by obtain rfl : cs = [Value.int .i64 x.1, Value.string x.2] := h; rfl) G4.out aQ.out OU bB
   obtain ⟨ad', cs', rfl, hP', hc0', iR, -⟩ := aP.at_ (fun x cs h => by obtain rfl : cs = [Value.int .i64 x.1, Value.string x.2] := h; rfl) G4'.out aQ.out OU bB
   generalize t[k] = x at *
   obtain rfl : cs = [Value.int .i64 x.1, Value.string x.2] := hP
   obtain rfl : cs' = [Value.int .i64 x.1, Value.string x.2] := hP'
   have e0 := hc0 _ rfl
   have d0 := hc0' _ rfl
   have e1 := aC 0 _ rfl
   have d1 := iR 0 _ rfl
   clear hc0 aC hc0' iR
   go_wp2
   go_region
   go_wp2
   go_roundw
   case rel => exact ⟨k + 1, by omega, by go_num, aQ.out.drew⟩
   case measure => simp [RowKit.intOf]; omega
  ·obtain rfl : k = vv := by omega
   go_wp2
   clear y0 y2 z0 z2
   go_loopw [6] (fun i wr => ∃ k : Nat, k ≤ tq ∧ i = .int .i64 k ∧ Below Z0.heap.size Z0 wr) (fun i _ => tq - (RowKit.intOf i).toNat)
   case atStart => exact ⟨0, by omega, rfl, aQ.out⟩
   case round =>
    obtain ⟨j, hj, rfl, hbv⟩ := hrel
    have y2 := (HB1.out.below hbv (by omega)).cell 2
    have z2 := (HB2.out.below hbv (by omega)).cell 2
    simp only [gq2] at y2 z2
    have LF := qh hbv
    clear hbv
    by_cases hlj : j < tq
    ·have hjl : j < on.length := by have := N6.out; omega
     have JU : (j : Int) < (tq : Int) := by omega
     have hj0 : (0 : Int) ≤ (j : Int) := by omega
     obtain ⟨ad, cs, rfl, hP, hc0, -, -⟩ := aP.at_ (fun x cs h => by obtain ⟨v, rfl, -⟩ := h; rfl) G6.out LF.out.drew OU hjl
     obtain ⟨ad', cs', rfl, hP', hc0', -, -⟩ := aP.at_ (fun x cs h => by obtain ⟨v, rfl, -⟩ := h; rfl) G6'.out LF.out.drew OU hjl
     generalize on[j] = x at *
     obtain ⟨q, rfl, hq⟩ := hP
     obtain ⟨q', rfl, hq'⟩ := hP'
     obtain ⟨X, mx, cx, rfl, -⟩ := hq.form
     obtain ⟨X', mx', O5, rfl, -⟩ := hq'.form
     have hbd := LF.out.drew
     have ae := GU _ B x _ _ (hq.mv hbd OU fun _ _ h => h) (hq'.mv hbd OU fun _ _ h => h) (by have := hbd.size; omega)
     have e0 := hc0 _ rfl
     have d0 := hc0' _ rfl
     rw [Nat.mul_one] at e0 d0
     rename_i wv
     have hy2 := (HB1.out.below hbd (by omega)).cell 2
     have hz2 := (HB2.out.below hbd (by omega)).cell 2
     simp only [gq2] at hy2 hz2
     have hq1 := And.intro (And.intro hy2 hz2) (And.intro e0 d0)
     have aj := qh ae; have MV := qh hq1
     clear hc0 hc0' hq hq' ae hbd e0 d0 hy2 hz2
     go_wp2
     refine wp_region_held_drew (S := (fun W => (W.cell? ⟨w.heap.size, 2, none⟩ = some (.slice (some ad) tq c6) ∧ W.cell? ⟨w.heap.size + 1, 2, none⟩ = some (.slice (some ad') tq zP)) ∧ W.cell? (ad.add j) = some (.slice X mx cx) ∧ W.cell? (ad'.add j) = some (.slice X' mx' O5))) (by kernel_rfl) ?_ (fun ah => ?_)
     ·(try dsimp only)
      (first | exact hq1 | exact hs2)
     iterate 10
      refine tkH 0 (v := ?_) rfl (fun _ _ _ h => h) ?_ ?_
      rotate_left
      ·intro w hSw; (try dsimp only at hSw); (try simp only [tkN, gq3, gq1]); go_simp <;> with_reducible rfl
      try simp only [tkN, Act.put, gq3, gq1]
     refine rdH 10 fun K hK => ?_
     go_simp
     (try go_wp2_with fail)
     refine aj.out.mono ?_
     rintro e w2 ⟨rfl, hb2⟩
     have hs2 : (w2.cell? ⟨w.heap.size, 2, none⟩ = some (.slice (some ad) tq c6) ∧ w2.cell? ⟨w.heap.size + 1, 2, none⟩ = some (.slice (some ad') tq zP)) ∧ w2.cell? (ad.add j) = some (.slice X mx cx) ∧ w2.cell? (ad'.add j) = some (.slice X' mx' O5) := ⟨⟨(hb2.cell (World.block_lt_of_cell? _ _ hq1.1.1)).trans hq1.1.1, (hb2.cell (World.block_lt_of_cell? _ _ hq1.1.2)).trans hq1.1.2⟩, (hb2.cell (World.block_lt_of_cell? _ _ hq1.2.1)).trans hq1.2.1, (hb2.cell (World.block_lt_of_cell? _ _ hq1.2.2)).trans hq1.2.2⟩
     have HB3 := qh (LF.out.drew.trans (hb2.mono LF.out.drew.size))
     clear hb2
     (try go_simp)
     refine hK.out _ _ ?_ (fun aJ => ?_)
     ·(try dsimp only)
      (first | exact hq1 | exact hs2)
     clear hK K ah; rename _ => ah
     refine tkH 11 (v := ?_) rfl (fun _ _ _ h => h) ?_ ?_
     rotate_left
     ·intro w hSw; (try dsimp only at hSw); (try simp only [tkN, gq3, gq1]); go_simp <;> with_reducible rfl
     try simp only [tkN, Act.put, gq3, gq1]
     refine wpAnyH_done (by kernel_rfl) ?_ _
     clear ah hs2 hq1
     go_wp2
     go_roundw
     case rel => exact ⟨j + 1, by omega, by go_num, HB3.out⟩
     case measure => simp [RowKit.intOf]; omega
    ·obtain rfl : j = tq := by omega
     go_wp2
     go_ret
     exact ⟨rfl, bL.out.trans (LF.out.mono (by omega))⟩
theorem Ej (w : World) (B : Nat) (x : Fm) (cs cs' : List Value) (h : bn w B x cs) (h' : bn w B x cs') (hB : B ≤ w.heap.size) :
 Calls Tryz.prog 124 #[.agg cs.toArray, .agg cs'.toArray] w fun e w' => e = .returned (.bool true) ∧ Below w.heap.size w w' := by
 obtain ⟨v, rfl, hs⟩ := h
 obtain ⟨v', rfl, hs'⟩ := h'
 obtain ⟨A, n, c, rfl, hn⟩ := hs.form
 obtain ⟨A', n', c', rfl, hn'⟩ := hs'.form
 have aF := ((Below.refl w.heap.size w).alloc (Nat.le_refl _) (.cells #[.bool x.has, .slice A n c] 82)).alloc (by simp) (.cells #[.bool x.has, .slice A' n' c'] 82)
 have b1 := (Blk.new w 82 #[.bool x.has, .slice A n c]).alloc (.cells #[.bool x.has, .slice A' n' c'] 82)
 have b2 := Blk.new (w.alloc (.cells #[.bool x.has, .slice A n c] 82)) 82 #[.bool x.has, .slice A' n' c']
 rw [World.size_alloc] at b2
 obtain ⟨Z0, lZ⟩ : ∃ Z, (w.alloc (.cells #[.bool x.has, .slice A n c] 82)).alloc (.cells #[.bool x.has, .slice A' n' c'] 82) = Z := ⟨_, rfl⟩
 have hsz0 : Z0.heap.size = w.heap.size + 1 + 1 := by rw [← lZ]; simp
 rw [lZ] at aF b1 b2
 obtain ⟨Ax, cx, ex, ⟨hx1, hx2⟩, hr⟩ := hs.flat
 obtain ⟨Ax', O5, ex', -, hr'⟩ := hs'.flat
 injection ex with e1 e2 e3
 injection ex' with Zb e2' e3'
 subst e1 e3 Zb e3'
 rw [← e2] at hr hx1
 rw [← e2'] at hr'
 have ae := pq A A' n n' c c' B x.w x.w Z0 (Reads.below hr (aF.mono hB)) (Reads.below hr' (aF.mono hB)) (by omega) (by omega)
 rw [decide_eq_true rfl] at ae
 have y0 := b1.cell 0; have y1 := b1.cell 1; have z0 := b2.cell 0; have z1 := b2.cell 1
 simp only [gq2] at y0 y1 z0 z1
 have HZ0 := qh lZ; have bL := qh aF; have aj := qh ae
 clear lZ aF b1 b2 hs hs' ae hn hn' e2 e2' hr hr' hx1 hx2
 show Calls _ _ #[.agg #[.bool x.has, .slice A n c], .agg #[.bool x.has, .slice A' n' c']] _ _
 go_enter Tryz.func124, Tryz.ntmps124
 go_wp2_with (rw [HZ0.out])
 refine aj.out.mono ?_
 rintro e w1 ⟨rfl, -, hb1⟩
 have HB1 := qh (bL.out.trans (hb1.mono (by omega)))
 clear hb1 y0 y1 z0 z1
 go_wp2
 go_ret
 exact ⟨rfl, HB1.out⟩
theorem Ca (w : World) (B : Nat) (l : List Fm) (v v' : Value) (h : aP bn 2 w B l v) (h' : aP bn 2 w B l v') (hB : B ≤ w.heap.size) :
 Calls Tryz.prog 123 #[v, v', .func (.func 124) #[] #[]] w fun e w' => e = .returned (.bool true) ∧ Below w.heap.size w w' := by
 obtain ⟨A, n, c, rfl, hn⟩ := h.form
 obtain ⟨A', n', c', rfl, hn'⟩ := h'.form
 obtain rfl : n' = n := by rw [hn, hn']
 obtain ⟨-, hm1, hm2⟩ := h.len
 unfold maxLen at hm2
 have HH := qh h; have Hy := qh h'; have HN := qh hn
 clear h h' hn hn'
 go_enter Tryz.func123, Tryz.ntmps123
 go_wp2
 go_loopw [17] (fun i wr => ∃ k : Nat, k ≤ n' ∧ i = .int .i64 k ∧ Below w.heap.size w wr) (fun i _ => n' - (RowKit.intOf i).toNat)
 case atStart => exact ⟨0, by omega, rfl, Below.refl _ _⟩
 case round =>
  obtain ⟨k, hk, rfl, hbw⟩ := hrel
  have aQ := qh hbw
  clear hbw
  by_cases hlt : k < n'
  ·have bB : k < l.length := by have := HN.out; omega
   have cB : (k : Int) < (n' : Int) := by omega
   have hk0 : (0 : Int) ≤ (k : Int) := by omega
   obtain ⟨ad, cs, rfl, hP, hc0, aC, -⟩ := aP.at_ (fun x cs h => by obtain ⟨v, rfl, -⟩ := h; rfl) HH.out aQ.out hB bB
   obtain ⟨ad', cs', rfl, hP', hc0', iR, -⟩ := aP.at_ (fun x cs h => by obtain ⟨v, rfl, -⟩ := h; rfl) Hy.out aQ.out hB bB
   generalize l[k] = x at *
   have hb2 := (aQ.out.alloc aQ.out.size (.cells cs.toArray 82)).alloc (by rw [World.size_alloc]; have := aQ.out.size; omega) (.cells cs'.toArray 82)
   have ae := Ej ((wr.alloc (.cells cs.toArray 82)).alloc (.cells cs'.toArray 82)) B x cs cs' (bn.keep (fun q hq => hb2.cell (p := q) (by omega)) hP) (bn.keep (fun q hq => hb2.cell (p := q) (by omega)) hP') (by have := hb2.size; omega)
   obtain ⟨q, rfl, hq⟩ := hP
   obtain ⟨q', rfl, hq'⟩ := hP'
   obtain ⟨X, mx, cx, rfl, -⟩ := hq.form
   obtain ⟨X', mx', O5, rfl, -⟩ := hq'.form
   have e0 := hc0 _ rfl
   have d0 := hc0' _ rfl
   have e1 := aC 0 _ rfl
   have d1 := iR 0 _ rfl
   have hs1 := Below.heap_alloc
   have f0 : (wr.alloc (.cells #[.bool x.has, .slice X mx cx] 82)).cell? (ad'.add (k * 2)) = some (.bool x.has) := by rw [World.cell?_alloc_lt _ _ _ (World.block_lt_of_cell? _ _ d0)]; exact d0
   have f1 : (wr.alloc (.cells #[.bool x.has, .slice X mx cx] 82)).cell? ⟨(ad'.add (k * 2)).block, (ad'.add (k * 2)).off + 1, none⟩ = some (.slice X' mx' O5) := by rw [World.cell?_alloc_lt _ _ _ (World.block_lt_of_cell? _ _ d1)]; exact d1
   have aj := qh ae; have HB2 := qh hb2
   clear hc0 aC hc0' iR hq hq' ae hb2 hs1
   go_wp2_with fail
   refine aj.out.mono ?_
   rintro e w2 ⟨rfl, hb3⟩
   have HB3 := qh (HB2.out.trans (hb3.mono HB2.out.size))
   clear hb3 e0 d0 e1 d1 f0 f1
   go_wp2
   go_roundw
   case rel => exact ⟨k + 1, by omega, by go_num, HB3.out⟩
   case measure => simp [RowKit.intOf]; omega
  ·obtain rfl : k = n' := by omega
   go_wp2
   go_ret
   exact ⟨rfl, aQ.out⟩
theorem og (w : World) (B : Nat) (l : List Fm) (v v' : Value) (h : aP bn 2 w B l v) (h' : aP bn 2 w B l v') (hB : B ≤ w.heap.size) :
 Calls Tryz.prog 55 #[v, v'] w fun e w' => e = .returned (.bool true) ∧ Below w.heap.size w w' := by
 have ae := Ca w B l v v' h h' hB
 obtain ⟨A, n, c, rfl, hn⟩ := h.form
 obtain ⟨A', n', c', rfl, hn'⟩ := h'.form
 clear h h' hn hn'
 go_enter Tryz.func55, Tryz.ntmps55
 go_wp2_with fail
 refine ae.mono ?_
 rintro e w1 ⟨rfl, hb1⟩
 have H1 := qh hb1
 clear hb1 ae
 go_wp2
 go_ret
 exact ⟨rfl, H1.out⟩
theorem Cb (w : World) (B : Nat) (x : En) (cs cs' : List Value) (h : tN w B x cs) (h' : tN w B x cs') (hB : B ≤ w.heap.size) :
 Calls Tryz.prog 54 #[.agg cs.toArray, .agg cs'.toArray] w fun e w' => e = .returned (.bool true) ∧ Below w.heap.size w w' := by
 obtain ⟨v, rfl, hs⟩ := h
 obtain ⟨v', rfl, hs'⟩ := h'
 obtain ⟨A, n, c, rfl, hn⟩ := hs.form
 obtain ⟨A', n', c', rfl, hn'⟩ := hs'.form
 have aF := ((Below.refl w.heap.size w).alloc (Nat.le_refl _) (.cells #[.string x.bX, .slice A n c] 84)).alloc (by simp) (.cells #[.string x.bX, .slice A' n' c'] 84)
 have b1 := (Blk.new w 84 #[.string x.bX, .slice A n c]).alloc (.cells #[.string x.bX, .slice A' n' c'] 84)
 have b2 := Blk.new (w.alloc (.cells #[.string x.bX, .slice A n c] 84)) 84 #[.string x.bX, .slice A' n' c']
 rw [World.size_alloc] at b2
 obtain ⟨Z0, lZ⟩ : ∃ Z, (w.alloc (.cells #[.string x.bX, .slice A n c] 84)).alloc (.cells #[.string x.bX, .slice A' n' c'] 84) = Z := ⟨_, rfl⟩
 have hsz0 : Z0.heap.size = w.heap.size + 1 + 1 := by rw [← lZ]; simp
 rw [lZ] at aF b1 b2
 have ae := og Z0 B x.bU _ _ (hs.mv aF hB fun _ _ h => bn.keep (fun q hq => aF.cell (p := q) (by omega)) h) (hs'.mv aF hB fun _ _ h => bn.keep (fun q hq => aF.cell (p := q) (by omega)) h) (by omega)
 have y0 := b1.cell 0; have y1 := b1.cell 1; have z0 := b2.cell 0; have z1 := b2.cell 1
 simp only [gq2] at y0 y1 z0 z1
 have HZ0 := qh lZ; have bL := qh aF; have aj := qh ae
 clear lZ aF b1 b2 hs hs' ae hn hn' 
 show Calls _ _ #[.agg #[.string x.bX, .slice A n c], .agg #[.string x.bX, .slice A' n' c']] _ _
 go_enter Tryz.func54, Tryz.ntmps54
 go_wp2_with (rw [HZ0.out])
 refine aj.out.mono ?_
 rintro e w1 ⟨rfl, hb1⟩
 have HB1 := qh (bL.out.trans (hb1.mono (by omega)))
 clear hb1 y0 y1 z0 z1
 go_wp2
 go_ret
 exact ⟨rfl, HB1.out⟩
theorem xh (w : World) (B : Nat) (l : List En) (v v' : Value) (h : aP tN 2 w B l v) (h' : aP tN 2 w B l v') (hB : B ≤ w.heap.size) :
 Calls Tryz.prog 53 #[v, v', .func (.func 54) #[] #[]] w fun e w' => e = .returned (.bool true) ∧ Below w.heap.size w w' := by
 obtain ⟨A, n, c, rfl, hn⟩ := h.form
 obtain ⟨A', n', c', rfl, hn'⟩ := h'.form
 obtain rfl : n' = n := by rw [hn, hn']
 obtain ⟨-, hm1, hm2⟩ := h.len
 unfold maxLen at hm2
 have HH := qh h; have Hy := qh h'; have HN := qh hn
 clear h h' hn hn'
 go_enter Tryz.func53, Tryz.ntmps53
 go_wp2
 go_loopw [17] (fun i wr => ∃ k : Nat, k ≤ n' ∧ i = .int .i64 k ∧ Below w.heap.size w wr) (fun i _ => n' - (RowKit.intOf i).toNat)
 case atStart => exact ⟨0, by omega, rfl, Below.refl _ _⟩
 case round =>
  obtain ⟨k, hk, rfl, hbw⟩ := hrel
  have aQ := qh hbw
  clear hbw
  by_cases hlt : k < n'
  ·have bB : k < l.length := by have := HN.out; omega
   have cB : (k : Int) < (n' : Int) := by omega
   have hk0 : (0 : Int) ≤ (k : Int) := by omega
   obtain ⟨ad, cs, rfl, hP, hc0, aC, -⟩ := aP.at_ (fun x cs h => by obtain ⟨v, rfl, -⟩ := h; rfl) HH.out aQ.out hB bB
   obtain ⟨ad', cs', rfl, hP', hc0', iR, -⟩ := aP.at_ (fun x cs h => by obtain ⟨v, rfl, -⟩ := h; rfl) Hy.out aQ.out hB bB
   generalize l[k] = x at *
   have hb2 := (aQ.out.alloc aQ.out.size (.cells cs.toArray 84)).alloc (by rw [World.size_alloc]; have := aQ.out.size; omega) (.cells cs'.toArray 84)
   have ae := Cb ((wr.alloc (.cells cs.toArray 84)).alloc (.cells cs'.toArray 84)) B x cs cs' (tN.keep (fun q hq => hb2.cell (p := q) (by omega)) hP) (tN.keep (fun q hq => hb2.cell (p := q) (by omega)) hP') (by have := hb2.size; omega)
   obtain ⟨q, rfl, hq⟩ := hP
   obtain ⟨q', rfl, hq'⟩ := hP'
   obtain ⟨X, mx, cx, rfl, -⟩ := hq.form
   obtain ⟨X', mx', O5, rfl, -⟩ := hq'.form
   have e0 := hc0 _ rfl
   have d0 := hc0' _ rfl
   have e1 := aC 0 _ rfl
   have d1 := iR 0 _ rfl
   have hs1 := Below.heap_alloc
   have f0 : (wr.alloc (.cells #[.string x.bX, .slice X mx cx] 84)).cell? (ad'.add (k * 2)) = some (.string x.bX) := by rw [World.cell?_alloc_lt _ _ _ (World.block_lt_of_cell? _ _ d0)]; exact d0
   have f1 : (wr.alloc (.cells #[.string x.bX, .slice X mx cx] 84)).cell? ⟨(ad'.add (k * 2)).block, (ad'.add (k * 2)).off + 1, none⟩ = some (.slice X' mx' O5) := by rw [World.cell?_alloc_lt _ _ _ (World.block_lt_of_cell? _ _ d1)]; exact d1
   have aj := qh ae; have HB2 := qh hb2
   clear hc0 aC hc0' iR hq hq' ae hb2 hs1
   go_wp2_with fail
   refine aj.out.mono ?_
   rintro e w2 ⟨rfl, hb3⟩
   have HB3 := qh (HB2.out.trans (hb3.mono HB2.out.size))
   clear hb3 e0 d0 e1 d1 f0 f1
   go_wp2
   go_roundw
   case rel => exact ⟨k + 1, by omega, by go_num, HB3.out⟩
   case measure => simp [RowKit.intOf]; omega
  ·obtain rfl : k = n' := by omega
   go_wp2
   go_ret
   exact ⟨rfl, aQ.out⟩
theorem Dc (w : World) (B : Nat) (p : Pj) (cs cs' : List Value) (h : dx w B p cs) (h' : dx w B p cs') (hB : B ≤ w.heap.size) (hnm : ∀ x ∈ p.au, x.name.size ≤ maxLen) :
 Calls Tryz.prog 17 #[.agg cs.toArray, .agg cs'.toArray] w fun e w' => e = .returned (.bool true) ∧ Below w.heap.size w w' := by
 obtain ⟨v1, v2, v3, v4, v5, v6, v7, v8, rfl, q1, q2, q3, q4, q5, q6, q7, q8⟩ := h
 obtain ⟨v1', v2', v3', v4', VX, VW, v7', v8', rfl, q1', q2', q3', Wj, Wh, We, Wd, V9⟩ := h'
 obtain ⟨A1, n1, c1, rfl, -⟩ := q1.form
 obtain ⟨Vx, Nz, c1', rfl, -⟩ := q1'.form
 obtain ⟨A2, n2, c2, rfl, -⟩ := q2.form
 obtain ⟨Vu, Ny, c2', rfl, -⟩ := q2'.form
 obtain ⟨A3, n3, c3, rfl, -⟩ := q3.form
 obtain ⟨Qx, Nw, c3', rfl, -⟩ := q3'.form
 obtain ⟨A4, n4, c4, rfl, -⟩ := q4.form
 obtain ⟨Ls, vv, Ci, rfl, -⟩ := Wj.form
 obtain ⟨A5, n5, c5, rfl, -⟩ := q5.form
 obtain ⟨LH, zO, CK, rfl, -⟩ := Wh.form
 obtain ⟨A6, n6, c6, rfl, -⟩ := q6.form
 obtain ⟨LG, tq, zP, rfl, -⟩ := We.form
 obtain ⟨A7, n7, c7, rfl, -⟩ := q7.form
 obtain ⟨Vn, m7', Tz, rfl, -⟩ := Wd.form
 obtain ⟨A8, n8, c8, rfl, -⟩ := q8.form
 obtain ⟨Vm, QK, Ty, rfl, -⟩ := V9.form
 have aF := ((Below.refl w.heap.size w).alloc (Nat.le_refl _) (.cells #[.slice A1 n1 c1, .slice A2 n2 c2, .slice A3 n3 c3, .slice A4 n4 c4, .slice A5 n5 c5, .slice A6 n6 c6, .slice A7 n7 c7, .slice A8 n8 c8] 33)).alloc (by simp) (.cells #[.slice Vx Nz c1', .slice Vu Ny c2', .slice Qx Nw c3', .slice Ls vv Ci, .slice LH zO CK, .slice LG tq zP, .slice Vn m7' Tz, .slice Vm QK Ty] 33)
 have b1 := (Blk.new w 33 #[.slice A1 n1 c1, .slice A2 n2 c2, .slice A3 n3 c3, .slice A4 n4 c4, .slice A5 n5 c5, .slice A6 n6 c6, .slice A7 n7 c7, .slice A8 n8 c8]).alloc (.cells #[.slice Vx Nz c1', .slice Vu Ny c2', .slice Qx Nw c3', .slice Ls vv Ci, .slice LH zO CK, .slice LG tq zP, .slice Vn m7' Tz, .slice Vm QK Ty] 33)
 have b2 := Blk.new (w.alloc (.cells #[.slice A1 n1 c1, .slice A2 n2 c2, .slice A3 n3 c3, .slice A4 n4 c4, .slice A5 n5 c5, .slice A6 n6 c6, .slice A7 n7 c7, .slice A8 n8 c8] 33)) 33 #[.slice Vx Nz c1', .slice Vu Ny c2', .slice Qx Nw c3', .slice Ls vv Ci, .slice LH zO CK, .slice LG tq zP, .slice Vn m7' Tz, .slice Vm QK Ty]
 rw [World.size_alloc] at b2
 obtain ⟨Z0, lZ⟩ : ∃ Z, (w.alloc (.cells #[.slice A1 n1 c1, .slice A2 n2 c2, .slice A3 n3 c3, .slice A4 n4 c4, .slice A5 n5 c5, .slice A6 n6 c6, .slice A7 n7 c7, .slice A8 n8 c8] 33)).alloc (.cells #[.slice Vx Nz c1', .slice Vu Ny c2', .slice Qx Nw c3', .slice Ls vv Ci, .slice LH zO CK, .slice LG tq zP, .slice Vn m7' Tz, .slice Vm QK Ty] 33) = Z := ⟨_, rfl⟩
 have hsz0 : Z0.heap.size = w.heap.size + 1 + 1 := by rw [← lZ]; simp
 rw [lZ] at aF b1 b2
 have hk : ∀ W : World, Below Z0.heap.size Z0 W → Below w.heap.size w W := fun W hW => aF.trans (hW.mono (by omega))
 have hsz : ∀ W : World, Below Z0.heap.size Z0 W → B ≤ W.heap.size := fun W hW => by have := hW.size; omega
 have k8 := fun W (hW : Below Z0.heap.size Z0 W) => xh W B p.entries _ _ (q8.mv (hk W hW) hB fun _ _ h => tN.keep (fun q hq => (hk W hW).cell (p := q) (by omega)) h) (V9.mv (hk W hW) hB fun _ _ h => tN.keep (fun q hq => (hk W hW).cell (p := q) (by omega)) h) (hsz W hW)
 have k1 := fun W (hW : Below Z0.heap.size Z0 W) => GQ W B p.aK _ _ (q1.mv (hk W hW) hB fun _ _ h => h) (q1'.mv (hk W hW) hB fun _ _ h => h) (hsz W hW)
 have k2 := fun W (hW : Below Z0.heap.size Z0 W) => GR W B p.aG _ _ (q2.mv (hk W hW) hB fun _ _ h => h) (q2'.mv (hk W hW) hB fun _ _ h => h) (hsz W hW)
 have k3 := fun W (hW : Below Z0.heap.size Z0 W) => Kj W B p.marks _ _ (q3.mv (hk W hW) hB fun _ _ h => h) (q3'.mv (hk W hW) hB fun _ _ h => h) (hsz W hW)
 have k4 := fun W (hW : Below Z0.heap.size Z0 W) => yZ W B p.tree p.au p.on _ _ _ _ _ _ (q4.mv (hk W hW) hB fun _ _ h => h) (q5.mv (hk W hW) hB fun _ _ h => h.below ((hk W hW).mono hB)) (q6.mv (hk W hW) hB fun _ _ h => si.keep (fun q hq => (hk W hW).cell (p := q) (by omega)) h) (Wj.mv (hk W hW) hB fun _ _ h => h) (Wh.mv (hk W hW) hB fun _ _ h => h.below ((hk W hW).mono hB)) (We.mv (hk W hW) hB fun _ _ h => si.keep (fun q hq => (hk W hW).cell (p := q) (by omega)) h) (hsz W hW) hnm
 have k7 := fun W (hW : Below Z0.heap.size Z0 W) => og W B p.aA _ _ (q7.mv (hk W hW) hB fun _ _ h => bn.keep (fun q hq => (hk W hW).cell (p := q) (by omega)) h) (Wd.mv (hk W hW) hB fun _ _ h => bn.keep (fun q hq => (hk W hW).cell (p := q) (by omega)) h) (hsz W hW)
 have y5 := (b1).cell 5
 have y7 := (b1).cell 7
 have z5 := (b2).cell 5
 have z7 := (b2).cell 7
 simp only [gq2] at y5 y7 z5 z7
 have HZ0 := qh lZ; have bL := qh aF; have HB1 := qh b1; have HB2 := qh b2; have K8 := qh k8; have K1 := qh k1; have K2 := qh k2; have K3 := qh k3; have K4 := qh k4; have K7 := qh k7
 clear lZ aF b1 b2 k8 k1 k2 k3 k4 k7 hk hsz hnm q1 q2 q3 q4 q5 q6 q7 q8 q1' q2' q3' Wj Wh We Wd V9
 show Calls _ _ #[.agg #[.slice A1 n1 c1, .slice A2 n2 c2, .slice A3 n3 c3, .slice A4 n4 c4, .slice A5 n5 c5, .slice A6 n6 c6, .slice A7 n7 c7, .slice A8 n8 c8], .agg #[.slice Vx Nz c1', .slice Vu Ny c2', .slice Qx Nw c3', .slice Ls vv Ci, .slice LH zO CK, .slice LG tq zP, .slice Vn m7' Tz, .slice Vm QK Ty]] _ _
 go_enter Tryz.func17, Tryz.ntmps17
 go_wp2_with (rw [HZ0.out])
 refine (K8.out Z0 (Below.refl _ _)).mono ?_
 rintro e w0 ⟨rfl, hb0⟩
 have H0 := qh hb0
 clear hb0 y5 y7 z5 z7
 have y0 := (HB1.out.below H0.out (by omega)).cell 0
 have z0 := (HB2.out.below H0.out (by omega)).cell 0
 simp only [gq2] at y0 z0
 go_wp2_with fail
 refine (K1.out _ H0.out).mono ?_
 rintro e w1 ⟨rfl, hb0⟩
 have H1 := qh (H0.out.trans (hb0.mono H0.out.size))
 clear hb0 y0 z0
 have y1 := (HB1.out.below H1.out (by omega)).cell 1
 have z1 := (HB2.out.below H1.out (by omega)).cell 1
 simp only [gq2] at y1 z1
 go_wp2_with fail
 refine (K2.out _ H1.out).mono ?_
 rintro e w2 ⟨rfl, hb0⟩
 have H2 := qh (H1.out.trans (hb0.mono H1.out.size))
 clear hb0 y1 z1
 have y2 := (HB1.out.below H2.out (by omega)).cell 2
 have z2 := (HB2.out.below H2.out (by omega)).cell 2
 simp only [gq2] at y2 z2
 go_wp2_with fail
 refine (K3.out _ H2.out).mono ?_
 rintro e w3 ⟨rfl, hb0⟩
 have H3 := qh (H2.out.trans (hb0.mono H2.out.size))
 clear hb0 y2 z2
 have y3 := (HB1.out.below H3.out (by omega)).cell 3
 have y4 := (HB1.out.below H3.out (by omega)).cell 4
 have y5 := (HB1.out.below H3.out (by omega)).cell 5
 have z3 := (HB2.out.below H3.out (by omega)).cell 3
 have z4 := (HB2.out.below H3.out (by omega)).cell 4
 have z5 := (HB2.out.below H3.out (by omega)).cell 5
 simp only [gq2] at y3 y4 y5 z3 z4 z5
 go_wp2_with fail
 refine (K4.out _ H3.out).mono ?_
 rintro e w4 ⟨rfl, hb0⟩
 have H4 := qh (H3.out.trans (hb0.mono H3.out.size))
 clear hb0 y3 y4 y5 z3 z4 z5
 have y6 := (HB1.out.below H4.out (by omega)).cell 6
 have z6 := (HB2.out.below H4.out (by omega)).cell 6
 simp only [gq2] at y6 z6
 go_wp2_with fail
 refine (K7.out _ H4.out).mono ?_
 rintro e w5 ⟨rfl, hb0⟩
 have H5 := qh (H4.out.trans (hb0.mono H4.out.size))
 clear hb0 y6 z6
 go_wp2
 go_ret
 exact ⟨rfl, bL.out.trans (H5.out.mono (by omega))⟩
end Go.Proofs.YtmepaeahchiglaaGreatDoor
