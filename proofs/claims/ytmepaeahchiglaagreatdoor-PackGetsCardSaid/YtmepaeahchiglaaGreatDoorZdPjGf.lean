/-
 layer 43: projects, read by the program. Conditions: bytes that can be read. (Printed by pjproj.py.)
-/
import Derived.Test.YtmepaeahchiglaaGreatDoorZdaw
set_option maxRecDepth 20000
set_option maxHeartbeats 8000000
set_option linter.unusedSimpArgs false
set_option linter.unusedVariables false
namespace Go.Proofs.YtmepaeahchiglaaGreatDoor
open Go.RowKit Go.Lib
theorem CV (w : World) (g : Nat) (bs : List Nat) (h : Rd w g bs) :
 Calls Tryz.prog 107 #[af g, .func (.func 108) #[af g] #[]] w (fu g 1 xm w (someR bg bs)) :=
 F4 w g bs h fun W b hW _ => LK W g b hW
theorem yV (w : World) (g b2 : Nat) (bs : List Nat) (h : Rd w g bs) (h2 : Blk w b2 104 #[af g]) :
 Calls Tryz.prog 109 #[af g, .func (.func 110) #[] #[af b2]] w (fu g 3 xn w (someR lC bs)) :=
 F6 w g b2 bs h fun W b hW hc => Jm W g b2 b hW (h2.aB hc (by have := h.ne h2; simpa using this))
theorem Ar (w : World) (g b2 : Nat) (bs : List Nat) (h : Rd w g bs) (h2 : Blk w b2 104 #[af g]) :
 Calls Tryz.prog 111 #[af g, .func (.func 112) #[] #[af b2]] w (fu g 4 wC w (someR lX bs)) :=
 F7 w g b2 bs h fun W b hW hc => Ml W g b2 b hW (h2.aB hc (by have := h.ne h2; simpa using this))
theorem yX (w : World) (g b2 : Nat) (bs : List Nat) (h : Rd w g bs) (h2 : Blk w b2 104 #[af g]) :
 Calls Tryz.prog 117 #[af g, .func (.func 118) #[] #[af b2]] w (fu g 2 xB w (someR Ce bs)) :=
 Gb w g b2 bs h fun W b hW hc => Kk W g b2 b hW (h2.aB hc (by have := h.ne h2; simpa using this))
theorem Dm (w : World) (g : Nat) (r0 : List Nat) (h : Rd w g r0) :
 Calls Tryz.prog 47 #[af g] w (dn g dF fo w (iN r0)) := by
 have hs := gY.start h 33 #[.slice none 0 0, .slice none 0 0, .slice none 0 0, .slice none 0 0, .slice none 0 0, .slice none 0 0, .slice none 0 0, .slice none 0 0]
 obtain ⟨W0, hW⟩ : ∃ W, ((w.alloc (.cells #[af g] 104)).alloc (.cells #[.slice none 0 0, .slice none 0 0, .slice none 0 0, .slice none 0 0, .slice none 0 0, .slice none 0 0, .slice none 0 0, .slice none 0 0] 33)).alloc (.cells #[.slice none 0 0, .slice none 0 0, .slice none 0 0, .slice none 0 0, .slice none 0 0, .slice none 0 0, .slice none 0 0, .slice none 0 0] 33) = W := ⟨_, rfl⟩
 have hp0 : (((w.alloc (.cells #[af g] 104)).alloc (.cells #[.slice none 0 0, .slice none 0 0, .slice none 0 0, .slice none 0 0, .slice none 0 0, .slice none 0 0, .slice none 0 0, .slice none 0 0] 33)).alloc (.cells #[.slice none 0 0, .slice none 0 0, .slice none 0 0, .slice none 0 0, .slice none 0 0, .slice none 0 0, .slice none 0 0, .slice none 0 0] 33)).cell? ⟨w.heap.size, 0, none⟩ = some (af g) := hs.ptr
 rw [hW] at hs
 have hp := hs.ptr
 obtain ⟨o, ho⟩ : ∃ o, iN r0 = o := ⟨_, rfl⟩
 rw [ho]
 unfold iN at ho
 have HS := qh hs; have HW := qh hW; have HO := qh ho
 clear hs h hW ho
 go_enter Tryz.func47, Tryz.ntmps47
 go_wp2_with fail
 rw [HW.out]
 have ho := HO.out
 clear HO HW hp0
 have ae := CV W0 g r0 HS.out.rd
 cases hr : someR bg r0 with
 | none =>
   rw [hr] at ae
   rw [thenR_none hr] at ho
   subst ho
   refine ae.mono ?_
   rintro e w1 ⟨h1, rfl⟩
   exact ⟨rfl, HS.out.ch.trans h1, rfl⟩
 | some q =>
   obtain ⟨l1, r1⟩ := q
   rw [hr] at ae
   rw [thenR_some hr] at ho
   refine ae.mono ?_
   rintro e u1 ⟨h1, v, rfl, h2, h3⟩
   obtain ⟨A0, c0, rfl⟩ := h2.form
   have hsl0 := h2.new3 (aa _) HS.out.size
   have hs := HS.out.aB h1 h3
   have aC : av [w.heap.size + 1 + 1] u1 (u1.setCell ⟨w.heap.size + 1 + 1, 0, none⟩ (.slice A0 l1.length c0)) := ((av.refl [w.heap.size + 1 + 1] u1).setCell (p := ⟨w.heap.size + 1 + 1, 0, none⟩) (.inl (by simp)) (.slice A0 l1.length c0))
   have hsl0 := hsl0.later3 (aa _) aC (by simp)
   have hs2 := (hs.set_ 0 (.slice A0 l1.length c0))
   simp only [gq1] at hs2
   have x0 := hs.bx.cell 0; have y0 := hs.bx.frozen 0
   simp only [gq2] at x0
   have hp := hs2.ptr
   obtain ⟨W1, hW⟩ : ∃ W, u1.setCell ⟨w.heap.size + 1 + 1, 0, none⟩ (.slice A0 l1.length c0) = W := ⟨_, rfl⟩
   rw [hW] at hs2 hsl0
   have hp2 := hs2.ptr
   have HW := qh hW; have HO := qh ho
   have kX := qh hsl0
   clear HS
   have HS := qh hs2
   clear ae hr h1 h3 h2 hs aC hs2 hW ho hsl0
   go_wp2_with fail
   rw [HW.out]
   have ho := HO.out
   clear HO HW x0 y0 hp
   have ae := yV W1 g w.heap.size r1 HS.out.rd HS.out.cb
   cases hr : someR lC r1 with
   | none =>
     rw [hr] at ae
     rw [thenR_none hr] at ho
     subst ho
     refine ae.mono ?_
     rintro e w1 ⟨h1, rfl⟩
     exact ⟨rfl, HS.out.ch.trans h1, rfl⟩
   | some q =>
     obtain ⟨l2, r2⟩ := q
     rw [hr] at ae
     rw [thenR_some hr] at ho
     refine ae.mono ?_
     rintro e u2 ⟨h1, v, rfl, h2, h3⟩
     obtain ⟨A1, c1, rfl⟩ := h2.form
     have hsl1 := h2.new3 (aa _) HS.out.size
     have hs := HS.out.aB h1 h3
     have aC : av [w.heap.size + 1 + 1] u2 (u2.setCell ⟨w.heap.size + 1 + 1, 1, none⟩ (.slice A1 l2.length c1)) := ((av.refl [w.heap.size + 1 + 1] u2).setCell (p := ⟨w.heap.size + 1 + 1, 1, none⟩) (.inl (by simp)) (.slice A1 l2.length c1))
     have hsl0 := (kX.out.later3 (aa _) h1 (by have := HS.out.gw; simp; omega)).later3 (aa _) aC (by simp)
     have hsl1 := hsl1.later3 (aa _) aC (by simp)
     have hs2 := (hs.set_ 1 (.slice A1 l2.length c1))
     simp only [gq1] at hs2
     have x1 := hs.bx.cell 1; have y1 := hs.bx.frozen 1
     simp only [gq2] at x1
     have hp := hs2.ptr
     obtain ⟨W2, hW⟩ : ∃ W, u2.setCell ⟨w.heap.size + 1 + 1, 1, none⟩ (.slice A1 l2.length c1) = W := ⟨_, rfl⟩
     rw [hW] at hs2 hsl0 hsl1
     have hp2 := hs2.ptr
     have HW := qh hW; have HO := qh ho
     have kX := qh hsl0
     have ql := qh hsl1
     clear HS
     have HS := qh hs2
     clear ae hr h1 h3 h2 hs aC hs2 hW ho hsl0 hsl1
     go_wp2_with fail
     rw [HW.out]
     have ho := HO.out
     clear HO HW x1 y1 hp
     have ae := Ar W2 g w.heap.size r2 HS.out.rd HS.out.cb
     cases hr : someR lX r2 with
     | none =>
       rw [hr] at ae
       rw [thenR_none hr] at ho
       subst ho
       refine ae.mono ?_
       rintro e w1 ⟨h1, rfl⟩
       exact ⟨rfl, HS.out.ch.trans h1, rfl⟩
     | some q =>
       obtain ⟨l3, r3⟩ := q
       rw [hr] at ae
       rw [thenR_some hr] at ho
       refine ae.mono ?_
       rintro e u3 ⟨h1, v, rfl, h2, h3⟩
       obtain ⟨A2, c2, rfl⟩ := h2.form
       have hsl2 := h2.new3 (aa _) HS.out.size
       have hs := HS.out.aB h1 h3
       have aC : av [w.heap.size + 1 + 1] u3 (u3.setCell ⟨w.heap.size + 1 + 1, 2, none⟩ (.slice A2 l3.length c2)) := ((av.refl [w.heap.size + 1 + 1] u3).setCell (p := ⟨w.heap.size + 1 + 1, 2, none⟩) (.inl (by simp)) (.slice A2 l3.length c2))
       have hsl0 := (kX.out.later3 (aa _) h1 (by have := HS.out.gw; simp; omega)).later3 (aa _) aC (by simp)
       have hsl1 := (ql.out.later3 (aa _) h1 (by have := HS.out.gw; simp; omega)).later3 (aa _) aC (by simp)
       have hsl2 := hsl2.later3 (aa _) aC (by simp)
       have hs2 := (hs.set_ 2 (.slice A2 l3.length c2))
       simp only [gq1] at hs2
       have x2 := hs.bx.cell 2; have y2 := hs.bx.frozen 2
       simp only [gq2] at x2
       have hp := hs2.ptr
       obtain ⟨W3, hW⟩ : ∃ W, u3.setCell ⟨w.heap.size + 1 + 1, 2, none⟩ (.slice A2 l3.length c2) = W := ⟨_, rfl⟩
       rw [hW] at hs2 hsl0 hsl1 hsl2
       have hp2 := hs2.ptr
       have HW := qh hW; have HO := qh ho
       have kX := qh hsl0
       have ql := qh hsl1
       have zD := qh hsl2
       clear HS
       have HS := qh hs2
       clear ae hr h1 h3 h2 hs aC hs2 hW ho hsl0 hsl1 hsl2
       go_wp2_with fail
       rw [HW.out]
       have ho := HO.out
       clear HO HW x2 y2 hp
       have ae := Ec W3 g r3 HS.out.rd
       cases hr : qa r3 with
       | none =>
         rw [hr] at ae
         rw [thenR_none hr] at ho
         subst ho
         refine ae.mono ?_
         rintro e w1 ⟨h1, rfl⟩
         exact ⟨rfl, HS.out.ch.trans h1, rfl⟩
       | some q =>
         obtain ⟨l4, r4⟩ := q
         rw [hr] at ae
         rw [thenR_some hr] at ho
         refine ae.mono ?_
         rintro e u4 ⟨h1, cs1, rfl, ⟨v4, v5, v6, rfl, q4, q5, q6⟩, h3⟩
         obtain ⟨A3, c3, rfl⟩ := q4.form
         have hsl3 := q4.new3 (aa _) HS.out.size
         obtain ⟨A4, c4, rfl⟩ := q5.form
         have hsl4 := q5.new3 aX HS.out.size
         obtain ⟨A5, c5, rfl⟩ := q6.form
         have hsl5 := q6.new3 cO HS.out.size
         have hs := HS.out.aB h1 h3
         have aC : av [w.heap.size + 1 + 1] u4 (((u4.setCell ⟨w.heap.size + 1 + 1, 3, none⟩ (.slice A3 l4.tree.length c3)).setCell ⟨w.heap.size + 1 + 1, 4, none⟩ (.slice A4 l4.au.length c4)).setCell ⟨w.heap.size + 1 + 1, 5, none⟩ (.slice A5 l4.on.length c5)) := ((((av.refl [w.heap.size + 1 + 1] u4).setCell (p := ⟨w.heap.size + 1 + 1, 3, none⟩) (.inl (by simp)) (.slice A3 l4.tree.length c3)).setCell (p := ⟨w.heap.size + 1 + 1, 4, none⟩) (.inl (by simp)) (.slice A4 l4.au.length c4)).setCell (p := ⟨w.heap.size + 1 + 1, 5, none⟩) (.inl (by simp)) (.slice A5 l4.on.length c5))
         have hsl0 := (kX.out.later3 (aa _) h1 (by have := HS.out.gw; simp; omega)).later3 (aa _) aC (by simp)
         have hsl1 := (ql.out.later3 (aa _) h1 (by have := HS.out.gw; simp; omega)).later3 (aa _) aC (by simp)
         have hsl2 := (zD.out.later3 (aa _) h1 (by have := HS.out.gw; simp; omega)).later3 (aa _) aC (by simp)
         have hsl3 := hsl3.later3 (aa _) aC (by simp)
         have hsl4 := hsl4.later3 aX aC (by simp)
         have hsl5 := hsl5.later3 cO aC (by simp)
         have hs2 := (((hs.set_ 3 (.slice A3 l4.tree.length c3)).set_ 4 (.slice A4 l4.au.length c4)).set_ 5 (.slice A5 l4.on.length c5))
         simp only [gq1] at hs2
         have x3 := hs.bx.cell 3; have y3 := hs.bx.frozen 3
         have x4 := hs.bx.cell 4; have y4 := hs.bx.frozen 4
         have x5 := hs.bx.cell 5; have y5 := hs.bx.frozen 5
         simp only [gq2] at x3 x4 x5
         have hp := hs2.ptr
         obtain ⟨W4, hW⟩ : ∃ W, ((u4.setCell ⟨w.heap.size + 1 + 1, 3, none⟩ (.slice A3 l4.tree.length c3)).setCell ⟨w.heap.size + 1 + 1, 4, none⟩ (.slice A4 l4.au.length c4)).setCell ⟨w.heap.size + 1 + 1, 5, none⟩ (.slice A5 l4.on.length c5) = W := ⟨_, rfl⟩
         rw [hW] at hs2 hsl0 hsl1 hsl2 hsl3 hsl4 hsl5
         have hp2 := hs2.ptr
         have HW := qh hW; have HO := qh ho
         have kX := qh hsl0
         have ql := qh hsl1
         have zD := qh hsl2
         have KH := qh hsl3
         have KG := qh hsl4
         have KF := qh hsl5
         clear HS
         have HS := qh hs2
         clear ae hr h1 h3  hs aC hs2 hW ho hsl0 hsl1 hsl2 hsl3 hsl4 hsl5
         go_wp2_with fail
         rw [HW.out]
         have ho := HO.out
         clear HO HW x3 y3 x4 y4 x5 y5 hp
         have ae := rG W4 g r4 HS.out.rd
         cases hr : someR gG r4 with
         | none =>
           rw [hr] at ae
           rw [thenR_none hr] at ho
           subst ho
           refine ae.mono ?_
           rintro e w1 ⟨h1, rfl⟩
           exact ⟨rfl, HS.out.ch.trans h1, rfl⟩
         | some q =>
           obtain ⟨l5, r5⟩ := q
           rw [hr] at ae
           rw [thenR_some hr] at ho
           refine ae.mono ?_
           rintro e u5 ⟨h1, v, rfl, h2, h3⟩
           obtain ⟨A6, c6, rfl⟩ := h2.form
           have hsl6 := h2.new3 dL HS.out.size
           have hs := HS.out.aB h1 h3
           have aC : av [w.heap.size + 1 + 1] u5 (u5.setCell ⟨w.heap.size + 1 + 1, 6, none⟩ (.slice A6 l5.length c6)) := ((av.refl [w.heap.size + 1 + 1] u5).setCell (p := ⟨w.heap.size + 1 + 1, 6, none⟩) (.inl (by simp)) (.slice A6 l5.length c6))
           have hsl0 := (kX.out.later3 (aa _) h1 (by have := HS.out.gw; simp; omega)).later3 (aa _) aC (by simp)
           have hsl1 := (ql.out.later3 (aa _) h1 (by have := HS.out.gw; simp; omega)).later3 (aa _) aC (by simp)
           have hsl2 := (zD.out.later3 (aa _) h1 (by have := HS.out.gw; simp; omega)).later3 (aa _) aC (by simp)
           have hsl3 := (KH.out.later3 (aa _) h1 (by have := HS.out.gw; simp; omega)).later3 (aa _) aC (by simp)
           have hsl4 := (KG.out.later3 aX h1 (by have := HS.out.gw; simp; omega)).later3 aX aC (by simp)
           have hsl5 := (KF.out.later3 cO h1 (by have := HS.out.gw; simp; omega)).later3 cO aC (by simp)
           have hsl6 := hsl6.later3 dL aC (by simp)
           have hs2 := (hs.set_ 6 (.slice A6 l5.length c6))
           simp only [gq1] at hs2
           have x6 := hs.bx.cell 6; have y6 := hs.bx.frozen 6
           simp only [gq2] at x6
           have hp := hs2.ptr
           obtain ⟨W5, hW⟩ : ∃ W, u5.setCell ⟨w.heap.size + 1 + 1, 6, none⟩ (.slice A6 l5.length c6) = W := ⟨_, rfl⟩
           rw [hW] at hs2 hsl0 hsl1 hsl2 hsl3 hsl4 hsl5 hsl6
           have hp2 := hs2.ptr
           have HW := qh hW; have HO := qh ho
           have kX := qh hsl0
           have ql := qh hsl1
           have zD := qh hsl2
           have KH := qh hsl3
           have KG := qh hsl4
           have KF := qh hsl5
           have Pf := qh hsl6
           clear HS
           have HS := qh hs2
           clear ae hr h1 h3 h2 hs aC hs2 hW ho hsl0 hsl1 hsl2 hsl3 hsl4 hsl5 hsl6
           go_wp2_with fail
           rw [HW.out]
           have ho := HO.out
           clear HO HW x6 y6 hp
           have ae := yX W5 g w.heap.size r5 HS.out.rd HS.out.cb
           cases hr : someR Ce r5 with
           | none =>
             rw [hr] at ae
             rw [thenR_none hr] at ho
             subst ho
             refine ae.mono ?_
             rintro e w1 ⟨h1, rfl⟩
             exact ⟨rfl, HS.out.ch.trans h1, rfl⟩
           | some q =>
             obtain ⟨l6, r6⟩ := q
             rw [hr] at ae
             rw [thenR_some hr] at ho
             refine ae.mono ?_
             rintro e u6 ⟨h1, v, rfl, h2, h3⟩
             obtain ⟨A7, c7, rfl⟩ := h2.form
             have hsl7 := h2.new3 jY HS.out.size
             have hs := HS.out.aB h1 h3
             have aC : av [w.heap.size + 1 + 1] u6 (u6.setCell ⟨w.heap.size + 1 + 1, 7, none⟩ (.slice A7 l6.length c7)) := ((av.refl [w.heap.size + 1 + 1] u6).setCell (p := ⟨w.heap.size + 1 + 1, 7, none⟩) (.inl (by simp)) (.slice A7 l6.length c7))
             have hsl0 := (kX.out.later3 (aa _) h1 (by have := HS.out.gw; simp; omega)).later3 (aa _) aC (by simp)
             have hsl1 := (ql.out.later3 (aa _) h1 (by have := HS.out.gw; simp; omega)).later3 (aa _) aC (by simp)
             have hsl2 := (zD.out.later3 (aa _) h1 (by have := HS.out.gw; simp; omega)).later3 (aa _) aC (by simp)
             have hsl3 := (KH.out.later3 (aa _) h1 (by have := HS.out.gw; simp; omega)).later3 (aa _) aC (by simp)
             have hsl4 := (KG.out.later3 aX h1 (by have := HS.out.gw; simp; omega)).later3 aX aC (by simp)
             have hsl5 := (KF.out.later3 cO h1 (by have := HS.out.gw; simp; omega)).later3 cO aC (by simp)
             have hsl6 := (Pf.out.later3 dL h1 (by have := HS.out.gw; simp; omega)).later3 dL aC (by simp)
             have hsl7 := hsl7.later3 jY aC (by simp)
             have hs2 := (hs.set_ 7 (.slice A7 l6.length c7))
             simp only [gq1] at hs2
             have x7 := hs.bx.cell 7; have y7 := hs.bx.frozen 7
             simp only [gq2] at x7
             have hp := hs2.ptr
             obtain ⟨W6, hW⟩ : ∃ W, u6.setCell ⟨w.heap.size + 1 + 1, 7, none⟩ (.slice A7 l6.length c7) = W := ⟨_, rfl⟩
             rw [hW] at hs2 hsl0 hsl1 hsl2 hsl3 hsl4 hsl5 hsl6 hsl7
             have hp2 := hs2.ptr
             have HW := qh hW; have HO := qh ho
             have kX := qh hsl0
             have ql := qh hsl1
             have zD := qh hsl2
             have KH := qh hsl3
             have KG := qh hsl4
             have KF := qh hsl5
             have Pf := qh hsl6
             have Xy := qh hsl7
             clear HS
             have HS := qh hs2
             clear ae hr h1 h3 h2 hs aC hs2 hW ho hsl0 hsl1 hsl2 hsl3 hsl4 hsl5 hsl6 hsl7
             have aC : av [w.heap.size + 1] W6 ((((((((W6.setCell ⟨w.heap.size + 1, 0, none⟩ (.slice A0 l1.length c0)).setCell ⟨w.heap.size + 1, 1, none⟩ (.slice A1 l2.length c1)).setCell ⟨w.heap.size + 1, 2, none⟩ (.slice A2 l3.length c2)).setCell ⟨w.heap.size + 1, 3, none⟩ (.slice A3 l4.tree.length c3)).setCell ⟨w.heap.size + 1, 4, none⟩ (.slice A4 l4.au.length c4)).setCell ⟨w.heap.size + 1, 5, none⟩ (.slice A5 l4.on.length c5)).setCell ⟨w.heap.size + 1, 6, none⟩ (.slice A6 l5.length c6)).setCell ⟨w.heap.size + 1, 7, none⟩ (.slice A7 l6.length c7)) := (((((((((av.refl [w.heap.size + 1] W6).setCell (p := ⟨w.heap.size + 1, 0, none⟩) (.inl (by simp)) (.slice A0 l1.length c0)).setCell (p := ⟨w.heap.size + 1, 1, none⟩) (.inl (by simp)) (.slice A1 l2.length c1)).setCell (p := ⟨w.heap.size + 1, 2, none⟩) (.inl (by simp)) (.slice A2 l3.length c2)).setCell (p := ⟨w.heap.size + 1, 3, none⟩) (.inl (by simp)) (.slice A3 l4.tree.length c3)).setCell (p := ⟨w.heap.size + 1, 4, none⟩) (.inl (by simp)) (.slice A4 l4.au.length c4)).setCell (p := ⟨w.heap.size + 1, 5, none⟩) (.inl (by simp)) (.slice A5 l4.on.length c5)).setCell (p := ⟨w.heap.size + 1, 6, none⟩) (.inl (by simp)) (.slice A6 l5.length c6)).setCell (p := ⟨w.heap.size + 1, 7, none⟩) (.inl (by simp)) (.slice A7 l6.length c7))
             have hsl0 := dw.mD (aa _) (kX.out.later3 (aa _) aC (by simp))
             have hsl1 := dw.mD (aa _) (ql.out.later3 (aa _) aC (by simp))
             have hsl2 := dw.mD (aa _) (zD.out.later3 (aa _) aC (by simp))
             have hsl3 := dw.mD (aa _) (KH.out.later3 (aa _) aC (by simp))
             have hsl4 := dw.mD aX (KG.out.later3 aX aC (by simp))
             have hsl5 := dw.mD cO (KF.out.later3 cO aC (by simp))
             have hsl6 := dw.mD dL (Pf.out.later3 dL aC (by simp))
             have hsl7 := dw.mD jY (Xy.out.later3 jY aC (by simp))
             have hf := ((((((((HS.out.um 0 (.slice A0 l1.length c0)).um 1 (.slice A1 l2.length c1)).um 2 (.slice A2 l3.length c2)).um 3 (.slice A3 l4.tree.length c3)).um 4 (.slice A4 l4.au.length c4)).um 5 (.slice A5 l4.on.length c5)).um 6 (.slice A6 l5.length c6)).um 7 (.slice A7 l6.length c7))
             simp only [gq1] at hf
             have ay : dn g dF fo w (some ((⟨l1, l2, l3, l4.tree, l4.au, l4.on, l5, l6⟩ : Pj), r6)) (.returned (fo [.slice A0 l1.length c0, .slice A1 l2.length c1, .slice A2 l3.length c2, .slice A3 l4.tree.length c3, .slice A4 l4.au.length c4, .slice A5 l4.on.length c5, .slice A6 l5.length c6, .slice A7 l6.length c7])) ((((((((W6.setCell ⟨w.heap.size + 1, 0, none⟩ (.slice A0 l1.length c0)).setCell ⟨w.heap.size + 1, 1, none⟩ (.slice A1 l2.length c1)).setCell ⟨w.heap.size + 1, 2, none⟩ (.slice A2 l3.length c2)).setCell ⟨w.heap.size + 1, 3, none⟩ (.slice A3 l4.tree.length c3)).setCell ⟨w.heap.size + 1, 4, none⟩ (.slice A4 l4.au.length c4)).setCell ⟨w.heap.size + 1, 5, none⟩ (.slice A5 l4.on.length c5)).setCell ⟨w.heap.size + 1, 6, none⟩ (.slice A6 l5.length c6)).setCell ⟨w.heap.size + 1, 7, none⟩ (.slice A7 l6.length c7)) :=
              ⟨hf.ch, _, rfl, ⟨_, _, _, _, _, _, _, _, rfl, hsl0, hsl1, hsl2, hsl3, hsl4, hsl5, hsl6, hsl7⟩, hf.rd⟩
             have g0 := HS.out.bx.cell 0; have z0 := HS.out.rs.cell 0; have k0 := HS.out.rs.frozen 0
             have g1 := HS.out.bx.cell 1; have z1 := HS.out.rs.cell 1; have k1 := HS.out.rs.frozen 1
             have g2 := HS.out.bx.cell 2; have z2 := HS.out.rs.cell 2; have k2 := HS.out.rs.frozen 2
             have g3 := HS.out.bx.cell 3; have z3 := HS.out.rs.cell 3; have k3 := HS.out.rs.frozen 3
             have g4 := HS.out.bx.cell 4; have z4 := HS.out.rs.cell 4; have k4 := HS.out.rs.frozen 4
             have g5 := HS.out.bx.cell 5; have z5 := HS.out.rs.cell 5; have k5 := HS.out.rs.frozen 5
             have g6 := HS.out.bx.cell 6; have z6 := HS.out.rs.cell 6; have k6 := HS.out.rs.frozen 6
             have g7 := HS.out.bx.cell 7; have z7 := HS.out.rs.cell 7; have k7 := HS.out.rs.frozen 7
             simp only [gq2] at g0 z0 g1 z1 g2 z2 g3 z3 g4 z4 g5 z5 g6 z6 g7 z7
             have d0 := hf.rs.cell 0
             have d1 := hf.rs.cell 1
             have d2 := hf.rs.cell 2
             have d3 := hf.rs.cell 3
             have d4 := hf.rs.cell 4
             have d5 := hf.rs.cell 5
             have d6 := hf.rs.cell 6
             have d7 := hf.rs.cell 7
             simp only [gq2] at d0 d1 d2 d3 d4 d5 d6 d7
             have D0 := qh d0
             have D1 := qh d1
             have D2 := qh d2
             have D3 := qh d3
             have D4 := qh d4
             have D5 := qh d5
             have D6 := qh d6
             have D7 := qh d7
             have aD := qh ay
             clear aC hf ay hp2 hsl0 hsl1 hsl2 hsl3 hsl4 hsl5 hsl6 hsl7 d0 d1 d2 d3 d4 d5 d6 d7
             go_wp2_with (rw [HW.out])
             have ho := HO.out
             subst ho
             exact bodyPost_ret (by simp [results, Tryz.results47, go_sem, D0.out, D1.out, D2.out, D3.out, D4.out, D5.out, D6.out, D7.out]) rfl aD.out
end Go.Proofs.YtmepaeahchiglaaGreatDoor
