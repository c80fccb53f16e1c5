/-
 layer 43: the reference's reader of histories. (Printed by rdref.py.)
-/
import Derived.Test.YtmepaeahchiglaaGreatDoorZdav
set_option maxRecDepth 20000
set_option maxHeartbeats 8000000
set_option linter.unusedSimpArgs false
set_option linter.unusedVariables false
namespace Go.Proofs.YtmepaeahchiglaaGreatDoor
open Go.RowKit Go.Lib
theorem Gg (w : World) (g at_ : Nat) (all : List Nat) (bad : Bool) (h : RS w g all at_ bad) :
 Calls Tryz.prog 49 #[af g] w (wh VB fo g all bad w (qa (all.drop at_))) := by
 have hgl := h.lt
 have hs : qz w ((w.alloc (.cells #[.slice none 0 0, .slice none 0 0, .slice none 0 0] 29)).alloc (.cells #[.slice none 0 0, .slice none 0 0, .slice none 0 0] 29)) g at_ all bad (w.heap.size + 1) 29 #[.slice none 0 0, .slice none 0 0, .slice none 0 0] := ⟨((av.refl _ _).alloc _).alloc _, (h.alloc _).alloc _, (by have := Blk.new (w.alloc (.cells #[.slice none 0 0, .slice none 0 0, .slice none 0 0] 29)) 29 #[.slice none 0 0, .slice none 0 0, .slice none 0 0]; rwa [World.size_alloc] at this), hgl, by omega⟩
 have hx : Blk ((w.alloc (.cells #[.slice none 0 0, .slice none 0 0, .slice none 0 0] 29)).alloc (.cells #[.slice none 0 0, .slice none 0 0, .slice none 0 0] 29)) w.heap.size 29 #[.slice none 0 0, .slice none 0 0, .slice none 0 0] := (Blk.new w 29 #[.slice none 0 0, .slice none 0 0, .slice none 0 0]).alloc _
 have hsz0 : ((w.alloc (.cells #[.slice none 0 0, .slice none 0 0, .slice none 0 0] 29)).alloc (.cells #[.slice none 0 0, .slice none 0 0, .slice none 0 0] 29)).heap.size = w.heap.size + 2 := by simp [World.size_alloc]
 obtain ⟨w0, hW⟩ : ∃ W, (w.alloc (.cells #[.slice none 0 0, .slice none 0 0, .slice none 0 0] 29)).alloc (.cells #[.slice none 0 0, .slice none 0 0, .slice none 0 0] 29) = W := ⟨_, rfl⟩
 rw [hW] at hs hx hsz0
 have HS := qh hs; have HX := qh hx; have HW := qh hW; have HC := qh (bZ w0 g at_ all bad hs.rd)
 clear hs hx hW h
 go_enter Tryz.func49, Tryz.ntmps49
 go_wp2_with fail
 rw [HW.out]
 clear HW
 refine HC.out.mono ?_
 rintro e w1 ⟨n1, at1, b1, rfl, hn, -, hc, hr, m, gg⟩
 have zw : n1 ≤ 1073741824 := by have := hr.all; omega
 have hsz1 := hc.size
 have HS := qh (HS.out.aB hc hr)
 have HX := qh (HX.out.aB hc (by simp only [List.mem_singleton]; omega))
 have HM := qh m; have HG := qh gg
 clear hc hr m gg hn HC
 go_wp2_with fail
 refine shist1 _ (fun _ _ _ _ _ h => h) w w1 g n1 at1 (w.heap.size + 1) all b1 _ _ _ _ _ _ _ _ _ _ _ _ _ _ _ _ _ _ _ _ _ _ _ _ _ _ _ _ _ _ _ _ _ _ _ _ _ _ _ _ _ _ _ _ _ _ _ _ _ _ _ _ _ _ _ _ _ _ _ _ _ _ _ _ _ _ _ _ _ _ _ _ _ _ _ _ _ _ _ _ _ _ _ _ _ _ _ _ _ _ _ _ _ _ _ _ _ _ zw HS.out (by omega) ?_
 intro e1_5 Xx Tw Tv Tu Tt Tq Tp Tn Tm Tk Tj Ti Tg Tf Te Td Tc Ta e1_32 e1_33 e1_34 e1_35 e1_36 e1_37 e1_38 e1_39 w2 at2 b2 l1 v1 hE
 have hsz2 := hE.ch.size
 obtain ⟨A1, c1, rfl⟩ := hE.sl.form
 have kX := qh hE.sl
 have hs := hE.st
 simp only [gq1] at hs
 have HX := qh (HX.out.aB hE.ch (by simp; omega))
 have HS := qh hs
 have M1 := qh (hE.bad HM.out); have G1 := qh (hE.got HG.out)
 have ZM := qh hE.full
 clear hE hs
 have HC := qh (bZ w2 g at2 all b2 HS.out.rd)
 go_wp2_with fail
 refine HC.out.mono ?_
 rintro e w3 ⟨n2, at3, b3, rfl, hn, -, hc, hr, m, gg⟩
 have D9 : n2 ≤ 1073741824 := by have := hr.all; omega
 have hsz3 := hc.size
 have HS := qh (HS.out.aB hc hr)
 have HX := qh (HX.out.aB hc (by simp only [List.mem_singleton]; omega))
 have HM := qh m; have HG := qh gg
 have kX := qh (kX.out.fF (aa _) hc (by intro i hi; simp only [List.mem_singleton] at hi; omega))
 clear hc hr m gg hn HC
 go_wp2_with fail
 refine shist2 _ (fun _ _ _ _ _ h => h) w w3 g n2 at3 (w.heap.size + 1) all b3 _ _ _ _ _ _ _ _ _ _ _ _ _ _ _ _ _ _ _ _ _ _ _ _ _ _ _ _ _ _ _ _ _ _ _ _ _ _ _ _ _ _ _ _ _ _ _ _ _ _ _ _ _ _ _ _ _ _ _ _ _ _ _ _ _ _ _ _ _ _ _ _ _ _ _ _ _ _ _ _ _ _ _ _ _ _ _ _ _ _ _ _ _ _ _ _ _ _ D9 HS.out (by omega) ?_
 intro Xw S9 SY SX SV SS SQ SN SL SK SI SH SG SF SE SC e2_57 e2_58 e2_59 e2_60 w4 at4 b4 l2 v2 hE
 have hsz4 := hE.ch.size
 obtain ⟨A2, c2, rfl⟩ := hE.sl.form
 have kX := qh (kX.out.fF (aa _) hE.ch (by intro i hi; simp at hi; omega))
 have ql := qh hE.sl
 have hs := hE.st
 simp only [gq1] at hs
 have HX := qh (HX.out.aB hE.ch (by simp; omega))
 have HS := qh hs
 have M2 := qh (hE.bad HM.out); have G2 := qh (hE.got HG.out)
 have FU2 := qh hE.full
 clear hE hs
 go_wp2_with fail
 refine shist3 _ (fun _ _ _ _ _ h => h) w w4 g n1 at4 (w.heap.size + 1) all b4 _ _ _ _ _ _ _ _ _ _ _ _ _ _ _ _ _ _ _ _ _ _ _ _ _ _ _ _ _ _ _ _ _ _ _ _ _ _ _ _ _ _ _ _ _ _ _ _ _ _ _ _ _ _ _ _ _ _ _ _ _ _ _ _ _ _ _ _ _ _ _ _ _ _ _ _ _ _ _ _ _ _ _ _ _ _ _ _ _ _ _ _ _ _ _ _ _ _ zw HS.out (by omega) ?_
 intro e3_7 Xv SB e3_11 SA Sz Sy Sw Sv Su Sr Sn Sm Sl Sk Sj Si Sg Sd Sc Sb Sa R9 R8 R7 R6 R5 R4 R3 e3_86 e3_87 e3_88 e3_89 e3_90 e3_91 e3_92 e3_93 e3_94 e3_95 e3_96 e3_97 e3_98 w5 at5 b5 l3 v3 hE
 have hsz5 := hE.ch.size
 obtain ⟨A3, c3, rfl⟩ := hE.sl.form
 have kX := qh (kX.out.fF (aa _) hE.ch (by intro i hi; simp at hi; omega))
 have ql := qh (ql.out.fF aX hE.ch (by intro i hi; simp at hi; omega))
 have zD := qh hE.sl
 have hs := hE.st
 simp only [gq1] at hs
 have HX := qh (HX.out.aB hE.ch (by simp; omega))
 have HS := qh hs
 have M3 := qh hE.inv.1; have G3 := qh (fun hb => hE.inv.last hE.full hb)
 clear hE hs
 have aC : av [w.heap.size] w5 (((w5.setCell ⟨w.heap.size, 0, none⟩ (.slice A1 l1.length c1)).setCell ⟨w.heap.size, 1, none⟩ (.slice A2 l2.length c2)).setCell ⟨w.heap.size, 2, none⟩ (.slice A3 l3.length c3)) := ((((av.refl [w.heap.size] w5).setCell (p := ⟨w.heap.size, 0, none⟩) (.inl (by simp)) (.slice A1 l1.length c1)).setCell (p := ⟨w.heap.size, 1, none⟩) (.inl (by simp)) (.slice A2 l2.length c2)).setCell (p := ⟨w.heap.size, 2, none⟩) (.inl (by simp)) (.slice A3 l3.length c3))
 have hsl0 := dw.pQ (aa _) (kX.out.fF (aa _) aC (by intro i hi; simp only [List.mem_singleton] at hi; omega)) (show w.heap.size ≤ _ by omega)
 have hsl1 := dw.pQ aX (ql.out.fF aX aC (by intro i hi; simp only [List.mem_singleton] at hi; omega)) (show w.heap.size ≤ _ by omega)
 have hsl2 := dw.pQ cO (zD.out.fF cO aC (by intro i hi; simp only [List.mem_singleton] at hi; omega)) (show w.heap.size ≤ _ by omega)
 have hf := (((HX.out.set_ 0 (.slice A1 l1.length c1)).set_ 1 (.slice A2 l2.length c2)).set_ 2 (.slice A3 l3.length c3))
 simp only [gq1] at hf
 have ay : wh VB fo g all bad w (qa (all.drop at_)) (.returned (fo [.slice A1 l1.length c1, .slice A2 l2.length c2, .slice A3 l3.length c3])) (((w5.setCell ⟨w.heap.size, 0, none⟩ (.slice A1 l1.length c1)).setCell ⟨w.heap.size, 1, none⟩ (.slice A2 l2.length c2)).setCell ⟨w.heap.size, 2, none⟩ (.slice A3 l3.length c3)) :=
  ⟨⟨l1, l2, l3⟩, _, at5, b5, rfl, ⟨_, _, _, rfl, hsl0, hsl1, hsl2⟩, HS.out.ch.new aC (fun i hi => .inr (by rw [List.mem_singleton.1 hi]; omega)), HS.out.rd.aB aC (fun i hi => by rw [List.mem_singleton.1 hi]; omega), fun hb => M3.out (M2.out (M1.out hb)), fun hb => ak (G1.out hb) (fun k => M3.out (M2.out k)) fun k => ak (G2.out k) M3.out fun k2 => by
     have hl : l1.length = n1 := ZM.out.resolve_right (by rw [k]; exact Bool.false_ne_true)
     rw [hl]
     exact ak (G3.out k2) id fun k3 => dO k3⟩
 have g0 := HS.out.bb.cell 0; have z0 := HX.out.cell 0; have k0 := HX.out.frozen 0; have d0 := hf.cell 0
 have g1 := HS.out.bb.cell 1; have z1 := HX.out.cell 1; have k1 := HX.out.frozen 1; have d1 := hf.cell 1
 have g2 := HS.out.bb.cell 2; have z2 := HX.out.cell 2; have k2 := HX.out.frozen 2; have d2 := hf.cell 2
 simp only [gq2] at g0 z0 d0 g1 z1 d1 g2 z2 d2
 have D0 := qh d0
 have D1 := qh d1
 have D2 := qh d2
 have aD := qh ay
 clear aC hf ay hsl0 hsl1 hsl2 d0 d1 d2 HS HX
 go_wp2
 exact bodyPost_ret (by simp [results, Tryz.results49, go_sem, D0.out, D1.out, D2.out]) rfl aD.out
theorem F8 (w : World) (g : Nat) (bs : List Nat) (h : Rd w g bs)
 (fG : ∀ (W : World) (b : List Nat), Rd W g b → av [g] w W → Calls Tryz.prog 63 #[af g] W (dn g iH fo W (jH b))) :
 Calls Tryz.prog 163 #[af g, .func (.func 63) #[af g] #[]] w (fu g 18 iH w (someR jH bs)) := by
 obtain ⟨i0, hi, hz0, hz1, hz2⟩ := info_parts (show (Tryz.prog.info? 62).map (fun i => (i.zero, i.size, i.bytes)) = some (some (.agg #[.string ⟨#[]⟩, .int .i64 0, .int .u32 0, .int .u32 0, .bool false, .int .i64 0, .int .i64 0, .slice none 0 0, .int .i64 0, .int .u32 0, .int .u32 0, .bool false, .int .i64 0, .int .i64 0, .slice none 0 0, .slice none 0 0, .slice none 0 0, .int .i64 0]), 18, 200) by kernel_rfl)
 have hgl := h.lt
 have mg := qh fG
 clear fG
 unfold someR
 cases hr : countR bs with
 | none =>
   have hc := bN h hr
   rw [thenR_none hr]
   clear h hr
   go_enter Tryz.func163, Tryz.ntmps163
   go_wp2_with fail
   refine hc.mono ?_
   rintro e w1 ⟨rfl, h1⟩
   exact ⟨rfl, h1, rfl⟩
 | some q =>
   obtain ⟨n, r⟩ := q
   have hc := bM h hr
   have hn := dC hr
   rw [thenR_some hr]
   obtain ⟨o, ho⟩ : ∃ o, manyR jH n r = o := ⟨_, rfl⟩
   rw [ho]
   have HO := qh ho
   clear h hr ho
   go_enter Tryz.func163, Tryz.ntmps163
   go_wp2_with fail
   refine hc.mono ?_
   rintro e w1 ⟨rfl, h1, h2⟩
   have hn30 : n ≤ 1073741824 := Nat.le_trans hn h1.bytes
   have H1 := qh h1; have H2 := qh h2
   clear h1 h2 hc
   go_wp2
   go_loopw [5, 8] (fun v i wr => ∃ k : Nat, ∃ l : List (Lw), ∃ xs b, i = .int .i64 k ∧ fq iH 18 62 jH w wr g n k o l v xs b) (fun _ i _ => n - (Lib.intOf i).toNat)
   case atStart => exact ⟨0, [], [], r, rfl, fq.start hgl H1.out H2.out HO.out⟩
   case round =>
    obtain ⟨k, l, xs, b, rfl, hR⟩ := hrel
    have HR := qh hR
    have hk := hR.hk
    have hsz := hR.ch.size
    clear hR
    by_cases hkn : k < n
    ·have cB : (k : Int) < n := by omega
     have ae := mg.out wr b HR.out.rd HR.out.ch
     cases hs : jH b with
     | none =>
       rw [hs] at ae
       obtain rfl := HR.out.none hkn hs
       have aj := qh ae
       clear hs ae
       go_wp2_with fail
       refine aj.out.mono ?_
       rintro e w2 ⟨hc2, rfl⟩
       exact ⟨rfl, HR.out.ch.trans hc2, rfl⟩
     | some q =>
       obtain ⟨x, b'⟩ := q
       rw [hs] at ae
       have aj := qh ae; have HS := qh hs
       clear hs ae
       go_wp2_with fail
       refine aj.out.mono ?_
       rintro e w2 ⟨hc2, cs1, rfl, bV, hr2⟩
       obtain ⟨q1, q2, A3, c3, A4, c4, rfl, hq1, hq2, -⟩ := id bV
       obtain ⟨lk, ls, je, tu, tC, lA, ln, lc, rfl⟩ := hq1.form
       obtain ⟨qk, qs, iw, qN, qO, qA, qn, qc, rfl⟩ := hq2.form
       clear hq1 hq2
       have aL := qh (HR.out.own2 hc2); have dR := qh (az w2 62 [.string x.name, .int .i64 lk, .int .u32 ls.1, .int .u32 ls.2, .bool je, .int .i64 tu, .int .i64 tC, .slice lA ln lc, .int .i64 qk, .int .u32 qs.1, .int .u32 qs.2, .bool iw, .int .i64 qN, .int .i64 qO, .slice qA qn qc, .slice A3 x.ifs.length c3, .slice A4 x.outs.length c4, .int .i64 x.mode] 18 1 rfl)
       have hsz2 := hc2.size
       have H3 := qh hr2; have H4 := qh hc2; have nT := qh (show iH w2 (dW wr w2) x [.string x.name, .int .i64 lk, .int .u32 ls.1, .int .u32 ls.2, .bool je, .int .i64 tu, .int .i64 tC, .slice lA ln lc, .int .i64 qk, .int .u32 qs.1, .int .u32 qs.2, .bool iw, .int .i64 qN, .int .i64 qO, .slice qA qn qc, .slice A3 x.ifs.length c3, .slice A4 x.outs.length c4, .int .i64 x.mode] from bV)
       clear hr2 hc2 bV
       go_wp2_with (at_builtin; refine wpList_append_any _ rfl _ _ 26 rfl w.heap.size 62 i0 (.agg #[.string ⟨#[]⟩, .int .i64 0, .int .u32 0, .int .u32 0, .bool false, .int .i64 0, .int .i64 0, .slice none 0 0, .int .i64 0, .int .u32 0, .int .u32 0, .bool false, .int .i64 0, .int .i64 0, .slice none 0 0, .slice none 0 0, .slice none 0 0, .int .i64 0]) 18 200 Tryz.underlying26 hi hz0 hz1 hz2 rfl (by decide) _ _ _ rfl (aL.out.alloc _) _ _ _ _ [.string x.name, .int .i64 lk, .int .u32 ls.1, .int .u32 ls.2, .bool je, .int .i64 tu, .int .i64 tC, .slice lA ln lc, .int .i64 qk, .int .u32 qs.1, .int .u32 qs.2, .bool iw, .int .i64 qN, .int .i64 qO, .slice qA qn qc, .slice A3 x.ifs.length c3, .slice A4 x.outs.length c4, .int .i64 x.mode] rfl dR.out (by intro u hu; simp only [List.mem_cons, List.not_mem_nil, or_false] at hu; rcases hu with rfl | rfl | rfl | rfl | rfl | rfl | rfl | rfl | rfl | rfl | rfl | rfl | rfl | rfl | rfl | rfl | rfl | rfl <;> rfl) (by unfold maxLen; omega) (by omega) (by simp; omega) ?_; intro v' w3 ai ag bK; have HN := qh (fq.next Fb HR.out hkn HS.out H4.out H3.out nT.out ai ag bK); clear ai ag bK)
       go_roundw
       case rel => exact ⟨k + 1, l ++ [x], _, b', by go_num, HN.out⟩
       case measure => simp [Lib.intOf]; omega
    ·obtain rfl : k = n := by omega
     obtain ⟨rfl, hsl⟩ := HR.out.fin Fb
     have zS := qh hsl
     clear hsl
     go_wp2
     go_ret
     exact ⟨HR.out.ch, _, rfl, zS.out, HR.out.rd⟩
theorem Ao (w : World) (g b2 : Nat) (bs : List Nat) (h : Rd w g bs) (h2 : Blk w b2 104 #[af g]) :
 Calls Tryz.prog 161 #[af g, .func (.func 162) #[] #[af b2]] w (fu g 2 LC w (someR CF bs)) :=
 Gc w g b2 bs h fun W b hW hc => Mi W g b2 b hW (h2.aB hc (by have := h.ne h2; simpa using this))
theorem CW (w : World) (g : Nat) (bs : List Nat) (h : Rd w g bs) :
 Calls Tryz.prog 163 #[af g, .func (.func 63) #[af g] #[]] w (fu g 18 iH w (someR jH bs)) :=
 F8 w g bs h fun W b hW _ => Ox W g b hW
theorem CX (w : World) (g : Nat) (bs : List Nat) (h : Rd w g bs) :
 Calls Tryz.prog 164 #[af g, .func (.func 138) #[af g] #[]] w (fu g 1 xu w (someR lG bs)) :=
 F9 w g bs h fun W b hW _ => Oz W g b hW
theorem Ec (w : World) (g : Nat) (r0 : List Nat) (h : Rd w g r0) :
 Calls Tryz.prog 114 #[af g] w (dn g VB fo w (qa r0)) := by
 have hs := gY.start h 29 #[.slice none 0 0, .slice none 0 0, .slice none 0 0]
 obtain ⟨W0, hW⟩ : ∃ W, ((w.alloc (.cells #[af g] 104)).alloc (.cells #[.slice none 0 0, .slice none 0 0, .slice none 0 0] 29)).alloc (.cells #[.slice none 0 0, .slice none 0 0, .slice none 0 0] 29) = W := ⟨_, rfl⟩
 have hp0 : (((w.alloc (.cells #[af g] 104)).alloc (.cells #[.slice none 0 0, .slice none 0 0, .slice none 0 0] 29)).alloc (.cells #[.slice none 0 0, .slice none 0 0, .slice none 0 0] 29)).cell? ⟨w.heap.size, 0, none⟩ = some (af g) := hs.ptr
 rw [hW] at hs
 have hp := hs.ptr
 obtain ⟨o, ho⟩ : ∃ o, qa r0 = o := ⟨_, rfl⟩
 rw [ho]
 unfold qa at ho
 have HS := qh hs; have HW := qh hW; have HO := qh ho
 clear hs h hW ho
 go_enter Tryz.func114, Tryz.ntmps114
 go_wp2_with fail
 rw [HW.out]
 have ho := HO.out
 clear HO HW hp0
 have ae := Ao W0 g w.heap.size r0 HS.out.rd HS.out.cb
 cases hr : someR CF r0 with
 | none =>
   rw [hr] at ae
   rw [thenR_none hr] at ho
   subst ho
   refine ae.mono ?_
   rintro e w1 ⟨h1, rfl⟩
   exact ⟨rfl, HS.out.ch.trans h1, rfl⟩
 | some q =>
   obtain ⟨l1, r1⟩ := q
   rw [hr] at ae
   rw [thenR_some hr] at ho
   refine ae.mono ?_
   rintro e u1 ⟨h1, v, rfl, h2, h3⟩
   obtain ⟨A0, c0, rfl⟩ := h2.form
   have hsl0 := h2.new3 (aa _) HS.out.size
   have hs := HS.out.aB h1 h3
   have Yd := qh (Nat.le_trans (F5 hr HS.out.rd.all) HS.out.rd.bytes)
   have aC : av [w.heap.size + 1 + 1] u1 (u1.setCell ⟨w.heap.size + 1 + 1, 0, none⟩ (.slice A0 l1.length c0)) := ((av.refl [w.heap.size + 1 + 1] u1).setCell (p := ⟨w.heap.size + 1 + 1, 0, none⟩) (.inl (by simp)) (.slice A0 l1.length c0))
   have hsl0 := hsl0.later3 (aa _) aC (by simp)
   have hs2 := (hs.set_ 0 (.slice A0 l1.length c0))
   simp only [gq1] at hs2
   have x0 := hs.bx.cell 0; have y0 := hs.bx.frozen 0
   simp only [gq2] at x0
   have hp := hs2.ptr
   obtain ⟨W1, hW⟩ : ∃ W, u1.setCell ⟨w.heap.size + 1 + 1, 0, none⟩ (.slice A0 l1.length c0) = W := ⟨_, rfl⟩
   rw [hW] at hs2 hsl0
   have hp2 := hs2.ptr
   have HW := qh hW; have HO := qh ho
   have kX := qh hsl0
   clear HS
   have HS := qh hs2
   clear ae hr h1 h3 h2 hs aC hs2 hW ho hsl0
   go_wp2_with fail
   rw [HW.out]
   have ho := HO.out
   clear HO HW x0 y0 hp
   have ae := CW W1 g r1 HS.out.rd
   cases hr : someR jH r1 with
   | none =>
     rw [hr] at ae
     rw [thenR_none hr] at ho
     subst ho
     refine ae.mono ?_
     rintro e w1 ⟨h1, rfl⟩
     exact ⟨rfl, HS.out.ch.trans h1, rfl⟩
   | some q =>
     obtain ⟨l2, r2⟩ := q
     rw [hr] at ae
     rw [thenR_some hr] at ho
     refine ae.mono ?_
     rintro e u2 ⟨h1, v, rfl, h2, h3⟩
     obtain ⟨A1, c1, rfl⟩ := h2.form
     have hsl1 := h2.new3 aX HS.out.size
     have hs := HS.out.aB h1 h3
     have aC : av [w.heap.size + 1 + 1] u2 (u2.setCell ⟨w.heap.size + 1 + 1, 1, none⟩ (.slice A1 l2.length c1)) := ((av.refl [w.heap.size + 1 + 1] u2).setCell (p := ⟨w.heap.size + 1 + 1, 1, none⟩) (.inl (by simp)) (.slice A1 l2.length c1))
     have hsl0 := (kX.out.later3 (aa _) h1 (by have := HS.out.gw; simp; omega)).later3 (aa _) aC (by simp)
     have hsl1 := hsl1.later3 aX aC (by simp)
     have hs2 := (hs.set_ 1 (.slice A1 l2.length c1))
     simp only [gq1] at hs2
     have x1 := hs.bx.cell 1; have y1 := hs.bx.frozen 1
     simp only [gq2] at x1
     have hl0 := hs2.bx.cell 0
     simp only [gq2] at hl0
     have hp := hs2.ptr
     obtain ⟨W2, hW⟩ : ∃ W, u2.setCell ⟨w.heap.size + 1 + 1, 1, none⟩ (.slice A1 l2.length c1) = W := ⟨_, rfl⟩
     rw [hW] at hs2 hsl0 hsl1
     have hp2 := hs2.ptr
     have HW := qh hW; have HO := qh ho
     have kX := qh hsl0
     have ql := qh hsl1
     clear HS
     have HS := qh hs2
     clear ae hr h1 h3 h2 hs aC hs2 hW ho hsl0 hsl1
     obtain ⟨i0, hi, hz0, hz1, hz2⟩ := info_parts (show (Tryz.prog.info? 144).map (fun i => (i.zero, i.size, i.bytes)) = some (some (.slice none 0 0), 1, 24) by kernel_rfl)
     have hn30 : l1.length ≤ 1073741824 := Yd.out
     have Wy := HS.out.size
     have hgw := HS.out.gw
     obtain ⟨o2, ho2⟩ : ∃ o2, manyR (someR lG) l1.length r2 = o2 := ⟨_, rfl⟩
     have ho := HO.out
     have lg : o = o2.bind fun x => some ((⟨l1, l2, x.1⟩ : Hs), x.2) := by
      rw [← ho]
      cases o2 with
      | none => rw [thenR_none ho2]; rfl
      | some x => obtain ⟨y, t⟩ := x; rw [thenR_some ho2]; rfl
     have jf := qh ho2; have M5 := qh lg
     clear ho2 lg ho HO
     have hl2 := HS.out.bx.cell 0
     simp only [gq2] at hl2
     go_wp2_with (rw [HW.out])
     clear HW x1 y1 hp hl0 hl2
     go_loopw [16] (fun i wr => ∃ k : Nat, ∃ ol : List (List Int), ∃ v : Value, ∃ xs : List Value, ∃ b : List Nat, k ≤ l1.length ∧ i = .int .i64 k ∧ ol.length = k ∧ wr.ownsRow W2.heap.size 144 1 v k xs ∧ cK zG wr (fun b => W2.heap.size ≤ b ∧ b < wr.heap.size ∧ v.ownBlock ≠ some b) ol xs ∧ jO ol (manyR (someR lG) (l1.length - k) b) = o2 ∧ gY w wr g b 29 #[.slice none 0 0, .slice none 0 0, .slice none 0 0] #[.slice A0 l1.length c0, .slice A1 l2.length c1, v] ∧ av [g, w.heap.size + 1 + 1] W2 wr) (fun i _ => l1.length - (Lib.intOf i).toNat)
     case atStart => exact ⟨0, [], .slice none 0 0, [], r2, by omega, rfl, rfl, World.ownsRow_nil _ _ _ _, rfl, by rw [jD]; exact jf.out, HS.out, av.refl _ _⟩
     case round =>
      obtain ⟨k, ol, v, xs, b, hk, rfl, hll, hown, hrows, dM, hs, bQ⟩ := hrel
      obtain ⟨A5, c5, rfl, hk5, hc5⟩ := ownsRow_form hown
      have hszr := bQ.size
      have zU := qh hll; have bD := qh hown; have NR := qh hrows; have bL := qh hs; have bz := qh bQ
      clear hll hown hrows hs bQ hk5 hc5
      by_cases hkn : k < l1.length
      ·have cB : (k : Int) < (l1.length : Int) := by omega
       rw [show l1.length - k = (l1.length - (k + 1)) + 1 by omega] at dM
       have hd : gY w wr.drew g b 29 #[.slice none 0 0, .slice none 0 0, .slice none 0 0] #[.slice A0 l1.length c0, .slice A1 l2.length c1, .slice A5 k c5] := bL.out.drew
       have ae := CX wr.drew g b hd.rd
       have hq1 := hd.ptr
       have hq2 := hd.bx.cell 2
       simp only [gq2] at hq2
       have HD := qh hd
       clear hd
       cases hr : someR lG b with
       | none =>
         rw [hr] at ae
         rw [iB _ hr] at dM
         have lg := M5.out
         subst dM
         have wY : o = none := lg
         subst wY
         have aj := qh ae
         clear hr ae lg
         go_wp2
         refine wp_region_held_drew (S := (fun W => W.cell? ⟨w.heap.size, 0, none⟩ = some (af g) ∧ W.cell? ⟨w.heap.size + 1 + 1, 2, none⟩ = some (.slice A5 k c5))) (by kernel_rfl) ?_ (fun ah => ?_)
         ·(try dsimp only)
          (first | exact ⟨hq1, hq2⟩ | exact hs2)
         iterate 5
          refine tkH 0 (v := ?_) rfl (fun _ _ _ h => h) ?_ ?_
          rotate_left
          ·intro w hSw; (try dsimp only at hSw); (try simp only [tkN, gq3, gq1]); go_simp <;> with_reducible rfl
          try simp only [tkN, Act.put, gq3, gq1]
         refine rdH 5 fun K hK => ?_
         go_simp
         (try go_wp2_with fail)
         refine aj.out.mono ?_
         rintro e w2 ⟨h1, rfl⟩
         exact ⟨rfl, HD.out.ch.trans h1, rfl⟩
       | some q =>
         obtain ⟨x, b'⟩ := q
         rw [hr] at ae
         rw [iA _ hr] at dM
         have aj := qh ae; have HP := qh dM
         clear hr ae dM
         go_wp2
         refine wp_region_held_drew (S := (fun W => W.cell? ⟨w.heap.size, 0, none⟩ = some (af g))) (by kernel_rfl) ?_ (fun ah => ?_)
         ·(try dsimp only)
          (first | exact hq1 | exact hs2 | exact hs3 | exact hs4 | exact hs5)
         refine tkH 0 (v := ?_) rfl (fun _ _ _ h => h) ?_ ?_
         rotate_left
         ·intro w hSw; (try dsimp only at hSw); (try simp only [tkN, gq3, gq1]); go_simp <;> with_reducible rfl
         try simp only [tkN, Act.put, gq3, gq1]
         iterate 3
          refine tkH 2 (v := ?_) rfl (fun _ _ _ h => h) ?_ ?_
          rotate_left
          ·intro w hSw; (try dsimp only at hSw); (try simp only [tkN, gq3, gq1]); go_simp <;> with_reducible rfl
          try simp only [tkN, Act.put, gq3, gq1]
         refine rdJ 1 5 (fun K hK => ?_) fun K hK => ?_
         focus
          go_simp
          refine hK.out _ _ ?_ (fun aJ => ?_)
          ·(try dsimp only)
           (first | exact hq1 | exact hs2 | exact hs3 | exact hs4 | exact hs5)
          clear hK K ah; rename _ => ah
          refine rdH 5 fun K hK => ?_
          go_simp
          (try go_wp2_with fail)
          refine aj.out.mono ?_
          rintro e w2 ⟨h1, v, rfl, h2, h3⟩
          obtain ⟨A6, c6, rfl⟩ := h2.form
          have hd2 := HD.out.aB h1 h3
          have hs2 := hd2.ptr
          have ht2 := hd2.bx.cell 2
          have hsz2 : wr.heap.size ≤ w2.heap.size := h1.size
          have aL := qh (bY (show wr.drew.ownsRow W2.heap.size 144 1 (.slice A5 k c5) k xs from bD.out) h1 (fun j hj hm => by have := (bD.out.lt j hj).1; simp at hm; omega))
          have PS := qh h1; have HD2 := qh hd2; have zS := qh h2
          have hd3 := hd2.alloc (.cells #[.slice A6 x.length c6] 144)
          have hs3 := hd3.ptr
          have ht3 := hd3.bx.cell 2
          simp only [gq2] at ht2 ht3
          have HD3 := qh hd3
          have dR := qh (az w2 144 [.slice A6 x.length c6] 1 1 rfl)
          clear h1 h2 h3 hd2 hd3
          (try go_simp)
          refine hK.out _ _ ?_ (fun aJ => ?_)
          ·(try dsimp only)
           (first | exact hq1 | exact hs2 | exact hs3 | exact hs4 | exact hs5)
          clear hK K ah; rename _ => ah
          refine rdH 6 fun K hK => ?_
          go_simp
          refine hK.out _ _ ?_ (fun aJ => ?_)
          ·(try dsimp only)
           (first | exact hq1 | exact hs2 | exact hs3 | exact hs4 | exact hs5)
          clear hK K ah; rename _ => ah
         rotate_left
         focus
          go_simp
          (try go_wp2_with fail)
          refine aj.out.mono ?_
          rintro e w2 ⟨h1, v, rfl, h2, h3⟩
          obtain ⟨A6, c6, rfl⟩ := h2.form
          have hd2 := HD.out.aB h1 h3
          have hs2 := hd2.ptr
          have ht2 := hd2.bx.cell 2
          have hsz2 : wr.heap.size ≤ w2.heap.size := h1.size
          have aL := qh (bY (show wr.drew.ownsRow W2.heap.size 144 1 (.slice A5 k c5) k xs from bD.out) h1 (fun j hj hm => by have := (bD.out.lt j hj).1; simp at hm; omega))
          have PS := qh h1; have HD2 := qh hd2; have zS := qh h2
          have hd3 := hd2.alloc (.cells #[.slice A6 x.length c6] 144)
          have hs3 := hd3.ptr
          have ht3 := hd3.bx.cell 2
          simp only [gq2] at ht2 ht3
          have HD3 := qh hd3
          have dR := qh (az w2 144 [.slice A6 x.length c6] 1 1 rfl)
          clear h1 h2 h3 hd2 hd3
          (try go_simp)
          refine hK.out _ _ ?_ (fun aJ => ?_)
          ·(try dsimp only)
           (first | exact hq1 | exact hs2 | exact hs3 | exact hs4 | exact hs5)
          clear hK K ah; rename _ => ah
          refine rdJ 1 6 (fun K hK => ?_) fun K hK => ?_
          rotate_left
          focus
           go_simp
           refine hK.out _ _ ?_ (fun aJ => ?_)
           ·(try dsimp only)
            (first | exact hq1 | exact hs2 | exact hs3 | exact hs4 | exact hs5)
           clear hK K ah; rename _ => ah
           refine rdH 1 fun K hK => ?_
           go_simp
           refine hK.out _ _ ?_ (fun aJ => ?_)
           ·(try dsimp only)
            (first | exact hq1 | exact hs2 | exact hs3 | exact hs4 | exact hs5)
           clear hK K ah; rename _ => ah
          rotate_left
          focus
           go_simp
           refine hK.out _ _ ?_ (fun aJ => ?_)
           ·(try dsimp only)
            (first | exact hq1 | exact hs2 | exact hs3 | exact hs4 | exact hs5)
           clear hK K ah; rename _ => ah
           refine rdH 6 fun K hK => ?_
           go_simp
           refine hK.out _ _ ?_ (fun aJ => ?_)
           ·(try dsimp only)
            (first | exact hq1 | exact hs2 | exact hs3 | exact hs4 | exact hs5)
           clear hK K ah; rename _ => ah
         all_goals
          refine rdH 7 fun K hK => ?_
          refine step_append_any _ (by rfl) (.tmp 19) (.tmp 24) 27 (by rfl) W2.heap.size 144 i0 (.slice none 0 0) 1 24 Tryz.underlying27 hi hz0 hz1 hz2 (by rfl) (by decide) (.slice A5 k c5) k xs (by simp [Act.eval, Act.put]) (aL.out.alloc _) (w2.heap.size + 1) (some ⟨w2.heap.size, 0, none⟩) 1 1 [.slice A6 x.length c6] (by simp [Act.eval, Act.put]) dR.out (by intro u hu; rw [List.mem_singleton.1 hu]; rfl) (by unfold maxLen; omega) (by omega) (by simp; omega) ?_
          intro v' w3 ai ag bK
          obtain ⟨A7, c7, rfl, hk7, hc7⟩ := ownsRow_form ai
          have hd4 := HD3.out.grown ag (fun j hj => (aL.out.lt j hj).1) (by omega)
          have hs4 := hd4.ptr
          have ht4 := hd4.bx.cell 2
          have hf4 := hd4.bx.frozen 2
          simp only [gq2] at ht4
          have hd5 := hd4.set_ 2 (.slice A7 (k + 1) c7)
          simp only [gq1] at hd5
          have hs5 := hd5.ptr
          have HD4 := qh hd4; have HD5 := qh hd5; have HG := qh ag; have HX := qh bK; have NZ := qh ai
          clear hd4 hd5 ag bK ai hk7 hc7
          refine hK.out _ _ ?_ (fun aJ => ?_)
          ·(try dsimp only)
           (first | exact hq1 | exact hs2 | exact hs3 | exact hs4 | exact hs5)
          clear hK K ah; rename _ => ah
          refine tkH 8 (v := ?_) rfl (fun _ _ _ h => h) ?_ ?_
          rotate_left
          ·intro w hSw; (try dsimp only at hSw); (try simp only [tkN, gq3, gq1]); go_simp <;> with_reducible rfl
          try simp only [tkN, Act.put, gq3, gq1]
          refine rdH 9 fun K hK => ?_
          go_simp
          refine hK.out _ _ ?_ (fun aJ => ?_)
          ·(try dsimp only)
           (first | exact hq1 | exact hs2 | exact hs3 | exact hs4 | exact hs5)
          clear hK K ah; rename _ => ah
          refine wpAnyH_done (by kernel_rfl) ?_ _
          have hsz3 := HG.out.size
          simp only [World.size_alloc] at hsz3
          have bK : (Value.slice A7 (k + 1) c7).ownBlock = (Value.slice A5 k c5).ownBlock ∨ (Value.slice A7 (k + 1) c7).ownBlock = some (w2.alloc (.cells #[.slice A6 x.length c6] 144)).heap.size := HX.out
          have ag : (w2.alloc (.cells #[.slice A6 x.length c6] 144)).grownBy w3 (Value.slice A5 k c5).ownBlock := HG.out
          have aC : av [w.heap.size + 1 + 1] w3 (w3.setCell ⟨w.heap.size + 1 + 1, 2, none⟩ (.slice A7 (k + 1) c7)) := (av.refl _ _).setCell (.inl (by simp)) _
          have hcell3 : ∀ q : Addr, W2.heap.size ≤ q.block → q.block < w2.heap.size → some q.block ≠ (Value.slice A5 k c5).ownBlock → (w3.setCell ⟨w.heap.size + 1 + 1, 2, none⟩ (.slice A7 (k + 1) c7)).cell? q = w2.cell? q := fun q hq0 hq hne => by
           unfold World.cell?
           rw [aC.block q.block (by omega) (by simp only [List.mem_singleton]; omega), ag.block q.block (by simp; omega) hne, Below.heap_alloc _ _ _ hq]
          have gJ : ∀ c, c < w2.heap.size → (Value.slice A5 k c5).ownBlock ≠ some c → (Value.slice A7 (k + 1) c7).ownBlock ≠ some c := fun c hc hne e => by
           rcases bK with bK | bK
           ·exact hne (by rw [← bK, e])
           ·rw [e] at bK
            injection bK with bK
            simp at bK; omega
          have hsz5 : (w3.setCell ⟨w.heap.size + 1 + 1, 2, none⟩ (.slice A7 (k + 1) c7)).heap.size = w3.heap.size := by simp [World.setCell]
          have hold : cK zG w2 (fun b => W2.heap.size ≤ b ∧ b < w2.heap.size ∧ (Value.slice A5 k c5).ownBlock ≠ some b) ol xs := NR.out.imp fun y cy hy => zG.keep (fun c hc => ⟨hc.1, by have := hc.2.1; omega, hc.2.2⟩) (fun q hq => by
           have h1 := PS.out.block q.block hq.2.1 (by simp only [List.mem_singleton]; have := hq.1; omega)
           unfold World.cell?
           rw [h1]; rfl) hy
          have hp1 : zG w2 (fun b => W2.heap.size ≤ b ∧ b < w2.heap.size ∧ (Value.slice A5 k c5).ownBlock ≠ some b) x [.slice A6 x.length c6] := ⟨_, rfl, dw.plain (fun c hc => ⟨by have h0 : wr.heap.size ≤ c := hc.1; omega, hc.2, fun e => by have := (bD.out.lt c e).2; have h0 : wr.heap.size ≤ c := hc.1; omega⟩) (fun _ _ => rfl) zS.out⟩
          have aI : cK zG (w3.setCell ⟨w.heap.size + 1 + 1, 2, none⟩ (.slice A7 (k + 1) c7)) (fun b => W2.heap.size ≤ b ∧ b < (w3.setCell ⟨w.heap.size + 1 + 1, 2, none⟩ (.slice A7 (k + 1) c7)).heap.size ∧ (Value.slice A7 (k + 1) c7).ownBlock ≠ some b) (ol ++ [x]) (xs ++ [.slice A6 x.length c6]) := (cK.append hp1 hold).imp fun y cy hy => zG.keep (fun c hc => ⟨hc.1, by have := hc.2.1; omega, gJ c hc.2.1 hc.2.2⟩) (fun q hq => hcell3 q hq.1 hq.2.1 (fun e => hq.2.2 e.symm)) hy
          have hown5 : (w3.setCell ⟨w.heap.size + 1 + 1, 2, none⟩ (.slice A7 (k + 1) c7)).ownsRow W2.heap.size 144 1 (.slice A7 (k + 1) c7) (k + 1) (xs ++ [.slice A6 x.length c6]) := bY NZ.out aC (fun j hj hm => by have := (NZ.out.lt j hj).1; simp at hm; omega)
          have hch5 : av [g, w.heap.size + 1 + 1] W2 (w3.setCell ⟨w.heap.size + 1 + 1, 2, none⟩ (.slice A7 (k + 1) c7)) := ((((bz.out.drew.trans (PS.out.mono (by simp))).alloc _).grown ag (fun j hj => (aL.out.lt j hj).1)).trans (aC.mono (by simp)))
          have hlen5 : (ol ++ [x]).length = k + 1 := by rw [List.length_append, zU.out]; rfl
          have bf := qh aI; have Uz := qh hown5; have YD := qh hch5; have UZ := qh hlen5
          clear ag bK hcell3 gJ hold hp1 aI hown5 hch5 aC hlen5 ah hq1 hq2 hs2 ht2 hs3 ht3 hs4 ht4 hf4 hs5
          go_wp2
          go_roundw
          case rel => exact ⟨k + 1, ol ++ [x], _, _, b', by omega, by go_num, UZ.out, Uz.out, bf.out, HP.out, HD5.out, YD.out⟩
          case measure => simp [Lib.intOf]; omega
      ·obtain rfl : k = l1.length := by omega
       rw [Nat.sub_self] at dM
       have e : o2 = some (ol, b) := by rw [← dM]; simp [jO, manyR]
       have lg := M5.out
       rw [e] at lg
       have wY : o = some ((⟨l1, l2, ol⟩ : Hs), b) := lg
       have hs := bL.out
       have aC : av [w.heap.size + 1] wr (((wr.setCell ⟨w.heap.size + 1, 0, none⟩ (.slice A0 l1.length c0)).setCell ⟨w.heap.size + 1, 1, none⟩ (.slice A1 l2.length c1)).setCell ⟨w.heap.size + 1, 2, none⟩ (.slice A5 l1.length c5)) :=
        (((av.refl _ _).setCell (.inl (by simp)) _).setCell (.inl (by simp)) _).setCell (.inl (by simp)) _
       have hsl0 := dw.mD (aa _) ((kX.out.later3 (aa _) bz.out (by intro i hi; simp at hi; omega)).later3 (aa _) aC (by simp))
       have hsl1 := dw.mD aX ((ql.out.later3 aX bz.out (by intro i hi; simp at hi; omega)).later3 aX aC (by simp))
       have hown := bD.out
       rw [← zU.out] at hown
       have hsl2 : dw zG 1 wr (xq w wr) ol (.slice A5 ol.length c5) := nz hown (fun c hc => by have := bD.out.lt c (by rw [← zU.out]; exact hc); exact ⟨by omega, this.2⟩) (NR.out.imp fun y cy hy => zG.keep (fun c hc => ⟨by have := hc.1; omega, hc.2.1⟩) (fun _ _ => rfl) hy)
       rw [zU.out] at hsl2
       have hsl3 := dw.mD cO (hsl2.later3 cO aC (by simp))
       have hf := ((hs.um 0 (.slice A0 l1.length c0)).um 1 (.slice A1 l2.length c1)).um 2 (.slice A5 l1.length c5)
       simp only [gq1] at hf
       have ay : dn g VB fo w (some ((⟨l1, l2, ol⟩ : Hs), b)) (.returned (fo [.slice A0 l1.length c0, .slice A1 l2.length c1, .slice A5 l1.length c5])) (((wr.setCell ⟨w.heap.size + 1, 0, none⟩ (.slice A0 l1.length c0)).setCell ⟨w.heap.size + 1, 1, none⟩ (.slice A1 l2.length c1)).setCell ⟨w.heap.size + 1, 2, none⟩ (.slice A5 l1.length c5)) :=
        ⟨hf.ch, _, rfl, ⟨_, _, _, rfl, hsl0, hsl1, hsl3⟩, hf.rd⟩
       have g0 := hs.bx.cell 0; have g1 := hs.bx.cell 1; have g2 := hs.bx.cell 2
       have z0 := hs.rs.cell 0; have z1 := hs.rs.cell 1; have z2 := hs.rs.cell 2
       have q0 := hs.rs.frozen 0; have q1 := hs.rs.frozen 1; have q2 := hs.rs.frozen 2
       have d0 := hf.rs.cell 0; have d1 := hf.rs.cell 1; have d2 := hf.rs.cell 2
       simp only [gq2] at g0 g1 g2 z0 z1 z2 d0 d1 d2
       have aD := qh ay; have D0 := qh d0; have D1 := qh d1; have D2 := qh d2; have X7 := qh wY
       clear dM e lg wY hs aC hsl0 hsl1 hown hsl2 hsl3 hf ay d0 d1 d2
       go_wp2
       have lg := X7.out
       subst lg
       exact bodyPost_ret (by simp [results, Tryz.results114, go_sem, D0.out, D1.out, D2.out]) rfl aD.out
end Go.Proofs.YtmepaeahchiglaaGreatDoor
