/-
 layer 43: the program's pattern, read. Conditions: bytes that can be read. (Printed by rdpat2.py.)
-/
import Derived.Test.YtmepaeahchiglaaGreatDoorZdaj
set_option maxRecDepth 20000
set_option maxHeartbeats 8000000
set_option linter.unusedSimpArgs false
namespace Go.Proofs.YtmepaeahchiglaaGreatDoor
open Go.RowKit Go.Lib
structure wy (w W : World) (g gl left : Nat) (r : List Nat) : Prop where
 ch : av [g, gl] w W
 rd : Rd W g r
 lf : Blk W gl 3 #[.int .i64 left]
 b2 : Blk W w.heap.size 104 #[af g]
 b3 : Blk W (w.heap.size + 1) 243 #[af gl]
 rs : Blk W (w.heap.size + 1 + 1) 58 #[.int .i64 0, .int .u32 0, .int .u32 0, .bool false, .int .i64 0, .int .i64 0, .slice none 0 0]
 gg : g < gl
 gw : gl < w.heap.size
section
variable {w W W' : World} {g gl left left' : Nat} {r r' : List Nat}
theorem wy.aB (h : wy w W g gl left r) (hc : av [g, gl] W W') (hr : Rd W' g r') (hl : Blk W' gl 3 #[.int .i64 left']) : wy w W' g gl left' r' := by
 have h1 := h.gg
 have h2 := h.gw
 exact ⟨h.ch.trans hc, hr, hl, h.b2.aB hc (by simp; omega), h.b3.aB hc (by simp; omega), h.rs.aB hc (by simp; omega), h1, h2⟩
theorem wy.chg1 (h : wy w W g gl left r) (hc : av [g] W W') (hr : Rd W' g r') : wy w W' g gl left r' :=
 h.aB (hc.mono (by simp)) hr (h.lf.aB hc (by have := h.gg; simp; omega))
theorem wy.alloc (h : wy w W g gl left r) (o : Obj) : wy w (W.alloc o) g gl left r :=
 h.aB ((av.refl _ _).alloc o) (h.rd.alloc o) (h.lf.alloc o)
theorem wy.far (h : wy w W g gl left r) {b : Nat} (hb : w.heap.size + 3 ≤ b) (i : Nat) (u : Value) : wy w (W.setCell ⟨b, i, none⟩ u) g gl left r := by
 have h1 := h.gg
 have h2 := h.gw
 have hc : av [b] W (W.setCell ⟨b, i, none⟩ u) := (av.refl _ _).setCell (.inl (by simp)) u
 exact ⟨h.ch.new hc (fun j hj => .inr (by simp at hj; omega)), h.rd.aB hc (by simp; omega), h.lf.aB hc (by simp; omega), h.b2.aB hc (by simp; omega), h.b3.aB hc (by simp; omega), h.rs.aB hc (by simp; omega), h1, h2⟩
theorem wy.c2 (h : wy w W g gl left r) : W.cell? ⟨w.heap.size, 0, none⟩ = some (af g) := by simpa using h.b2.cell 0
theorem wy.fin (h : wy w W g gl left r) {p : Pt} {k : Int} {s : Snd} {neg : Bool} {lo hi : Int} {A : Option Addr} {n c : Nat} (hp : PatF W (fun b => w.heap.size + 3 ≤ b ∧ b < W.heap.size) p (aZ k s neg lo hi (.slice A n c))) :
 nP g gl w (some ((p, left), r)) (.returned (.agg (aZ k s neg lo hi (.slice A n c)).toArray)) (st7 W (w.heap.size + 1 + 1) (.int .i64 k) (.int .u32 s.1) (.int .u32 s.2) (.bool neg) (.int .i64 lo) (.int .i64 hi) (.slice A n c)) := by
 have h1 := h.gg
 have h2 := h.gw
 exact uQ h.ch (hp.keep (fun b hb => ⟨by omega, hb.2, by omega⟩) (fun _ _ => rfl) _ _) h.rd h.lf (by omega) (by omega) (by omega)
end
theorem wy.start {w : World} {g gl left : Nat} {bs : List Nat} (h : Rd w g bs) (hl : Blk w gl 3 #[.int .i64 left]) (hg : g < gl) : wy w (((w.alloc (.cells #[af g] 104)).alloc (.cells #[af gl] 243)).alloc (.cells #[.int .i64 0, .int .u32 0, .int .u32 0, .bool false, .int .i64 0, .int .i64 0, .slice none 0 0] 58)) g gl left bs := by
 have e1 : (w.alloc (.cells #[af g] 104)).heap.size = w.heap.size + 1 := World.size_alloc _ _
 have e2 : ((w.alloc (.cells #[af g] 104)).alloc (.cells #[af gl] 243)).heap.size = w.heap.size + 1 + 1 := by rw [World.size_alloc, e1]
 have x1 := Blk.new (w.alloc (.cells #[af g] 104)) 243 #[af gl]
 have x2 := Blk.new ((w.alloc (.cells #[af g] 104)).alloc (.cells #[af gl] 243)) 58 #[.int .i64 0, .int .u32 0, .int .u32 0, .bool false, .int .i64 0, .int .i64 0, .slice none 0 0]
 rw [e1] at x1
 rw [e2] at x2
 exact ⟨(((av.refl _ w).alloc _).alloc _).alloc _, ((h.alloc _).alloc _).alloc _, ((hl.alloc _).alloc _).alloc _, ((Blk.new w _ _).alloc _).alloc _, x1.alloc _, x2, hg, hl.lt⟩
theorem wy.down {w W : World} {g gl left : Nat} {r : List Nat} (h : wy w W g gl (left + 1) r) : wy w (W.setCell ⟨gl, 0, none⟩ (.int .i64 left)) g gl left r := by
 have hc : av [gl] W (W.setCell ⟨gl, 0, none⟩ (.int .i64 left)) := (av.refl _ _).setCell (.inl (by simp)) _
 exact h.aB (hc.mono (by simp)) (h.rd.aB hc (by have := h.gg; simp; omega)) (by simpa using h.lf.set_ 0 (.int .i64 left))
theorem ik {w : World} {g n : Nat} {bs r : List Nat} (h : Rd w g bs) (hr : readN bs = some (n, r)) :
 Calls Tryz.prog 138 #[af g] w fun e w' => e = .returned (.int .i64 n) ∧ Rd w' g r ∧ av [g] w w' := by
 have := uE w g bs h
 rw [hr] at this
 exact this.mono fun e w' ⟨h1, v, h2, h3, h4⟩ => ⟨by rw [h2, h3], h4, h1⟩
theorem il {w : World} {g : Nat} {bs : List Nat} (h : Rd w g bs) (hr : readN bs = none) :
 Calls Tryz.prog 138 #[af g] w fun e w' => e = .panicked zI ∧ av [g] w w' := by
 have := uE w g bs h
 rw [hr] at this
 exact this.mono fun e w' ⟨h1, h2⟩ => ⟨h2, h1⟩
theorem uG {w : World} {g : Nat} {n : Bool} {bs r : List Nat} (h : Rd w g bs) (hr : jZ bs = some (n, r)) :
 Calls Tryz.prog 165 #[af g] w fun e w' => e = .returned (.bool n) ∧ Rd w' g r ∧ av [g] w w' := by
 have := xX w g bs h
 rw [hr] at this
 exact this.mono fun e w' ⟨h1, v, h2, h3, h4⟩ => ⟨by rw [h2, h3], h4, h1⟩
theorem uH {w : World} {g : Nat} {bs : List Nat} (h : Rd w g bs) (hr : jZ bs = none) :
 Calls Tryz.prog 165 #[af g] w fun e w' => e = .panicked zI ∧ av [g] w w' := by
 have := xX w g bs h
 rw [hr] at this
 exact this.mono fun e w' ⟨h1, h2⟩ => ⟨h2, h1⟩
theorem Ae {α β γ : Type} (g : Rdr α) (h : α → Rdr β) (K : β → Rdr γ) (b : List Nat) : thenR g (fun n => thenR (h n) K) b = thenR (thenR g h) K b := by
 unfold thenR
 cases g b with
 | none => rfl
 | some q => rfl
theorem vk {get : Nat → Rdr (Pt × Nat)} {left : Nat} {b : List Nat} {β : Type} {K : List Pt × Nat → Rdr β} (h : get left b = none) : thenR (manyS get 1 left) K b = none :=
 thenR_none (by rw [yu, thenR_none h])
theorem vg {get : Nat → Rdr (Pt × Nat)} {left left' : Nat} {b r : List Nat} {p : Pt} {β : Type} {K : List Pt × Nat → Rdr β} (h : get left b = some ((p, left'), r)) : thenR (manyS get 1 left) K b = K ([p], left') r :=
 thenR_some (by rw [yu, thenR_some h])
theorem EP {bs r : List Nat} {s : Snd} (h : sndR bs = some (s, r)) (hb : ∀ b ∈ bs, b < 256) : ok32 s := (canon_snd bs s r hb h).2
theorem Gm (w : World) (g gl : Nat) (bs : List Nat) (h : Rd w g bs) (hl : Blk w gl 3 #[.int .i64 0]) (hg : g < gl) :
 Calls Tryz.prog 182 #[af g, af gl] w (nP g gl w none) := by
 have aF := wy.start (left := 0) h hl hg
 have bW := aF.lf.cell 0
 have hgl := hl.lt
 simp only [gq2] at bW
 have bL := qh aF
 clear aF h hl
 go_enter Tryz.func182, Tryz.ntmps182
 go_wp2
 exact ⟨rfl, bL.out.ch, rfl⟩
theorem Gn (f : Nat) (hf : MQ f) (left : Nat) (w : World) (g gl : Nat) (bs : List Nat) (hlt : left < f) (h100 : left ≤ 100) (h : Rd w g bs) (hl : Blk w gl 3 #[.int .i64 ((left + 1 : Nat) : Int)]) (hg : g < gl) :
 Calls Tryz.prog 182 #[af g, af gl] w (nP g gl w (mM (fD f) left bs)) := by
 have aF := wy.start h hl hg
 have bW := aF.lf.cell 0
 have hfl := aF.lf.frozen 0
 have hgl := hl.lt
 simp only [gq2, Int.natCast_add, Int.cast_ofNat_Int] at bW
 have hs1 := aF.down
 obtain ⟨W1, hW1⟩ : ∃ W, (((w.alloc (.cells #[af g] 104)).alloc (.cells #[af gl] 243)).alloc (.cells #[.int .i64 0, .int .u32 0, .int .u32 0, .bool false, .int .i64 0, .int .i64 0, .slice none 0 0] 58)).setCell ⟨gl, 0, none⟩ (.int .i64 left) = W := ⟨_, rfl⟩
 rw [hW1] at hs1
 have HW1 := qh hW1; have iZ := qh hs1; have HF := qh hf
 clear hW1 aF hs1 h hl hf
 obtain ⟨o, ho⟩ : ∃ o, mM (fD f) left bs = o := ⟨_, rfl⟩
 rw [ho]
 have HO := qh ho
 clear ho
 go_enter Tryz.func182, Tryz.ntmps182
 go_wp2_with fail
 rw [HW1.out]
 clear HW1 hfl bW
 cases hr : readN bs with
 | none =>
   have ho : o = none := by rw [← HO.out]; exact thenR_none hr
   subst ho
   have hc := il iZ.out.rd hr
   clear hr
   refine hc.mono ?_
   rintro e w2 ⟨rfl, h1⟩
   exact ⟨rfl, iZ.out.ch.trans (h1.mono (by simp)), rfl⟩
 | some q =>
   obtain ⟨k, r⟩ := q
   have hO := HO.out
   unfold mM at hO
   rw [thenR_some hr] at hO
   have hc := ik iZ.out.rd hr
   clear hr HO
   refine hc.mono ?_
   rintro e w2 ⟨rfl, h1, h2⟩
   have hs2 := iZ.out.chg1 h2 h1
   have hsz2 : w.heap.size + 3 ≤ w2.heap.size := by have := hs2.rs.lt; omega
   obtain ⟨kI, cB⟩ : ∃ kI : Int, (k : Int) = kI := ⟨_, rfl⟩
   rw [cB] at hO ⊢
   have bE := Blk.new w2 58 #[.int .i64 kI, .int .u32 0, .int .u32 0, .bool false, .int .i64 0, .int .i64 0, .slice none 0 0]
   have hs3 := hs2.alloc (.cells #[.int .i64 kI, .int .u32 0, .int .u32 0, .bool false, .int .i64 0, .int .i64 0, .slice none 0 0] 58)
   have ow := qh hc
   clear h1 h2 hs2 hc ow
   by_cases k1 : k = 1
   ·obtain rfl : kI = 1 := by omega
    rw [if_pos k1] at hO
    have c2 := hs3.c2
    obtain ⟨W3, hW3⟩ : ∃ W, w2.alloc (.cells #[.int .i64 1, .int .u32 0, .int .u32 0, .bool false, .int .i64 0, .int .i64 0, .slice none 0 0] 58) = W := ⟨_, rfl⟩
    rw [hW3] at hs3 bE
    have HW3 := qh hW3; have ko := qh hs3; have CL := qh bE
    clear hW3 hs3 bE
    go_wp2_with fail
    rw [HW3.out]
    clear HW3 c2
    cases hr2 : sndR r with
    | none =>
      rw [thenR_none hr2] at hO
      subst hO
      have hc := kL ko.out.rd hr2
      refine hc.mono ?_
      rintro e w4 ⟨rfl, h1⟩
      exact ⟨rfl, ko.out.ch.trans (h1.mono (by simp)), rfl⟩
    | some q =>
      obtain ⟨s, r2⟩ := q
      rw [thenR_some hr2] at hO
      have hok := EP hr2 ko.out.rd.all
      have hc := kK ko.out.rd hr2
      clear hr2
      refine hc.mono ?_
      rintro e w4 ⟨rfl, h1, h2⟩
      have hs4 := ko.out.chg1 h2 h1
      have hx4 := CL.out.aB h2 (by simp; omega)
      clear h1 h2 hc ko CL
      have hs5 := (hs4.far hsz2 1 (.int .u32 s.1)).far hsz2 2 (.int .u32 s.2)
      have hx5 := (hx4.set_ 1 (.int .u32 s.1)).set_ 2 (.int .u32 s.2)
      simp only [gq1] at hx5
      have c2 := hs5.c2
      obtain ⟨x0, x1, x2, x3, x4, x5, x6⟩ := hx4.seven
      obtain ⟨y0, y1, y2, y3, y4, y5, y6⟩ := hx4.free7
      obtain ⟨W5, qf⟩ : ∃ W, (w4.setCell ⟨w2.heap.size, 1, none⟩ (.int .u32 s.1)).setCell ⟨w2.heap.size, 2, none⟩ (.int .u32 s.2) = W := ⟨_, rfl⟩
      rw [qf] at hs5 hx5
      have zR := qh qf; have sU := qh hs5; have yL := qh hx5; have gW := qh hok
      clear qf hs5 hx5 hs4 hx4 hok
      go_wp2_with fail
      rw [zR.out]
      clear zR c2 x0 x1 x2 x3 x4 x5 x6 y0 y1 y2 y3 y4 y5 y6
      cases hr3 : jZ r2 with
      | none =>
        rw [thenR_none hr3] at hO
        subst hO
        have hc := uH sU.out.rd hr3
        refine hc.mono ?_
        rintro e w6 ⟨rfl, h1⟩
        exact ⟨rfl, sU.out.ch.trans (h1.mono (by simp)), rfl⟩
      | some q =>
        obtain ⟨neg, r3⟩ := q
        rw [thenR_some hr3] at hO
        subst hO
        have hc := uG sU.out.rd hr3
        clear hr3
        refine hc.mono ?_
        rintro e w6 ⟨rfl, h1, h2⟩
        have hs6 := sU.out.chg1 h2 h1
        have hx6 := yL.out.aB h2 (by simp; omega)
        clear h1 h2 hc sU yL
        obtain ⟨p0, p1, p2, p3, p4, p5, p6⟩ := hx6.seven
        obtain ⟨y0, y1, y2, y3, y4, y5, y6⟩ := hx6.free7
        have hx7 := hx6.set_ 3 (.bool neg)
        simp only [gq1] at hx7
        have vF := hs6.far hsz2 3 (.bool neg)
        have JJ := hx7
        obtain ⟨x0, x1, x2, x3, x4, x5, x6⟩ := JJ.seven
        obtain ⟨z0, z1, z2, z3, z4, z5, z6⟩ := vF.rs.seven
        obtain ⟨v0, v1, v2, v3, v4, v5, v6⟩ := vF.rs.free7
        have zJ := qh (vF.rs.st7 (.int .i64 1) (.int .u32 s.1) (.int .u32 s.2) (.bool neg) (.int .i64 0) (.int .i64 0) (.slice none 0 0))
        have aD := qh (vF.fin (kN _ _ 1 s neg 0 0 gW.out))
        clear vF JJ
        clear hs6 hx6 hx7
        go_wp2
        obtain ⟨z0, z1, z2, z3, z4, z5, z6⟩ := zJ.out.seven
        exact bodyPost_ret (by simp [results, Tryz.results182, go_sem, z0, z1, z2, z3, z4, z5, z6]) rfl aD.out
   by_cases k34 : k = 3 ∨ k = 4
   ·rw [if_neg k1, if_pos k34, Ae] at hO
    have hsome := Am f HF.out left _ g gl w.heap.size (w.heap.size + 1) r hlt h100 hs3.rd hs3.lf hg hs3.b2 hs3.b3
    have c2 := hs3.c2
    obtain ⟨W3, hW3⟩ : ∃ W, w2.alloc (.cells #[.int .i64 kI, .int .u32 0, .int .u32 0, .bool false, .int .i64 0, .int .i64 0, .slice none 0 0] 58) = W := ⟨_, rfl⟩
    have RI : W3.heap.size = w2.heap.size + 1 := by rw [← hW3, World.size_alloc]
    rw [hW3] at hs3 bE hsome
    have HW3 := qh hW3; have ko := qh hs3; have CL := qh bE
    clear hW3 hs3 bE
    have t1 : (kI == 1) = false := by rw [beq_eq_false_iff_ne]; omega
    have t3 : (kI == 3) = true ∨ ((kI == 3) = false ∧ (kI == 4) = true) := by
     rcases k34 with h | h
     ·exact .inl (by rw [beq_iff_eq]; omega)
     ·exact .inr ⟨by rw [beq_eq_false_iff_ne]; omega, by rw [beq_iff_eq]; omega⟩
    obtain ⟨oo, lg⟩ : ∃ oo, thenR countR (fun n => manyS (fD f) n left) r = oo := ⟨_, rfl⟩
    rw [lg] at hsome
    have hO2 : o = oo.bind fun x => some ((.mk kI (0, 0) false 0 0 x.1.1, x.1.2), x.2) := by
     rw [← hO]
     cases hoo2 : oo with
     | none => rw [hoo2] at lg; rw [thenR_none lg]; rfl
     | some q => obtain ⟨x, t⟩ := q; rw [hoo2] at lg; rw [thenR_some lg]; rfl
    have jf := qh hO2; have NP := qh hsome
    clear hO hO2 lg hsome k1 k34 cB
    rcases t3 with t3 | ⟨t3, t4⟩
    all_goals
     skip
     go_wp2_with fail
     rw [HW3.out]
     clear HW3 c2
     refine NP.out.mono ?_
     rintro e w4 ⟨bQ, hm⟩
     cases oo with
     | none =>
       subst hm
       have hO := jf.out
       subst hO
       exact ⟨rfl, ko.out.ch.trans bQ, rfl⟩
     | some q =>
       obtain ⟨⟨l, left'⟩, r'⟩ := q
       obtain ⟨v, xs, rfl, hown, ic, hrd, hlf⟩ := hm
       have hO := jf.out
       subst hO
       obtain ⟨A4, c4, rfl, hlc, hcm⟩ := ownsRow_form hown
       have hs4 := ko.out.aB bQ hrd hlf
       have hx4 := CL.out.aB bQ (by have := ko.out.gw; have := ko.out.gg; simp; omega)
       clear ko CL jf NP
       obtain ⟨p0, p1, p2, p3, p4, p5, p6⟩ := hx4.seven
       obtain ⟨y0, y1, y2, y3, y4, y5, y6⟩ := hx4.free7
       have hx5 := hx4.set_ 6 (.slice A4 l.length c4)
       simp only [gq1] at hx5
       have dI : av [w2.heap.size] w4 (w4.setCell ⟨w2.heap.size, 6, none⟩ (.slice A4 l.length c4)) := (av.refl _ _).setCell (.inl (by simp)) _
       have hown5 := bY hown dI (fun j hj hm => by have := hown.lt j hj; simp at hm; omega)
       have hpats5 := ic.aB (T' := fun b => w.heap.size + 3 ≤ b ∧ b < (w4.setCell ⟨w2.heap.size, 6, none⟩ (.slice A4 l.length c4)).heap.size) dI (fun b hb => ⟨hb.2.1, by simp; omega⟩) (fun b hb => ⟨by omega, Nat.lt_of_lt_of_le hb.2.1 dI.size⟩)
       have bV := nI (k := kI) (s := (0, 0)) (neg := false) (lo := 0) (hi := 0) (S := fun b => w.heap.size + 3 ≤ b ∧ b < (w4.setCell ⟨w2.heap.size, 6, none⟩ (.slice A4 l.length c4)).heap.size) (by unfold ok32 is32; decide) hown5 (fun b hb => by have := hown5.lt b hb; exact ⟨by omega, this.2⟩) hpats5
       have vF := hs4.far hsz2 6 (.slice A4 l.length c4)
       have JJ := hx5
       obtain ⟨x0, x1, x2, x3, x4, x5, x6⟩ := JJ.seven
       obtain ⟨z0, z1, z2, z3, z4, z5, z6⟩ := vF.rs.seven
       obtain ⟨v0, v1, v2, v3, v4, v5, v6⟩ := vF.rs.free7
       have zJ := qh (vF.rs.st7 (.int .i64 kI) (.int .u32 0) (.int .u32 0) (.bool false) (.int .i64 0) (.int .i64 0) (.slice A4 l.length c4))
       have aD := qh (vF.fin bV)
       clear vF JJ
       clear hs4 hx4 hx5 hown ic hown5 hpats5 bV dI
       go_wp2
       obtain ⟨z0, z1, z2, z3, z4, z5, z6⟩ := zJ.out.seven
       exact bodyPost_ret (by simp [results, Tryz.results182, go_sem, z0, z1, z2, z3, z4, z5, z6]) rfl aD.out
   by_cases k5 : k = 5
   ·obtain rfl : kI = 5 := by omega
    rw [if_neg k1, if_neg k34, if_pos k5] at hO
    clear k1 k34
    have c2 := hs3.c2
    obtain ⟨W3, hW3⟩ : ∃ W, w2.alloc (.cells #[.int .i64 5, .int .u32 0, .int .u32 0, .bool false, .int .i64 0, .int .i64 0, .slice none 0 0] 58) = W := ⟨_, rfl⟩
    have RI : W3.heap.size = w2.heap.size + 1 := by rw [← hW3, World.size_alloc]
    rw [hW3] at hs3 bE
    have HW3 := qh hW3; have ko := qh hs3; have CL := qh bE
    clear hW3 hs3 bE
    go_wp2_with fail
    rw [HW3.out]
    clear HW3 c2
    cases hr2 : readN r with
    | none =>
      rw [thenR_none hr2] at hO
      subst hO
      have hc := il ko.out.rd hr2
      refine hc.mono ?_
      rintro e w4 ⟨rfl, h1⟩
      exact ⟨rfl, ko.out.ch.trans (h1.mono (by simp)), rfl⟩
    | some q =>
      obtain ⟨lo, r2⟩ := q
      rw [thenR_some hr2] at hO
      have hc := ik ko.out.rd hr2
      clear hr2
      refine hc.mono ?_
      rintro e w4 ⟨rfl, h1, h2⟩
      have hs4 := ko.out.chg1 h2 h1
      have hx4 := CL.out.aB h2 (by have := ko.out.gw; have := ko.out.gg; simp; omega)
      have hsz4 := h2.size
      clear h1 h2 hc ko CL
      have hs5 := hs4.far hsz2 4 (.int .i64 lo)
      have hx5 := hx4.set_ 4 (.int .i64 lo)
      simp only [gq1] at hx5
      have c2 := hs5.c2
      obtain ⟨x0, x1, x2, x3, x4, x5, x6⟩ := hx4.seven
      obtain ⟨y0, y1, y2, y3, y4, y5, y6⟩ := hx4.free7
      obtain ⟨W5, qf⟩ : ∃ W, w4.setCell ⟨w2.heap.size, 4, none⟩ (.int .i64 lo) = W := ⟨_, rfl⟩
      have Xc : W5.heap.size = w4.heap.size := by rw [← qf]; simp [World.setCell]
      rw [qf] at hs5 hx5
      have zR := qh qf; have sU := qh hs5; have yL := qh hx5
      clear qf hs5 hx5 hs4 hx4
      go_wp2_with fail
      rw [zR.out]
      clear zR c2 x0 x1 x2 x3 x4 x5 x6 y0 y1 y2 y3 y4 y5 y6
      cases hr3 : readN r2 with
      | none =>
        rw [thenR_none hr3] at hO
        subst hO
        have hc := il sU.out.rd hr3
        refine hc.mono ?_
        rintro e w6 ⟨rfl, h1⟩
        exact ⟨rfl, sU.out.ch.trans (h1.mono (by simp)), rfl⟩
      | some q =>
        obtain ⟨hi, r3⟩ := q
        rw [thenR_some hr3] at hO
        have hc := ik sU.out.rd hr3
        have hhi := fJ hr3 sU.out.rd.all
        clear hr3
        refine hc.mono ?_
        rintro e w6 ⟨rfl, h1, h2⟩
        have hs6 := sU.out.chg1 h2 h1
        have hx6 := yL.out.aB h2 (by have := sU.out.gw; have := sU.out.gg; simp; omega)
        have hsz6 := h2.size
        clear h1 h2 hc sU yL
        have hs7 := hs6.far hsz2 5 (.int .i64 ((hi : Int) - 1))
        have hx7 := hx6.set_ 5 (.int .i64 ((hi : Int) - 1))
        simp only [gq1] at hx7
        obtain ⟨x0, x1, x2, x3, x4, x5, x6⟩ := hx6.seven
        obtain ⟨y0, y1, y2, y3, y4, y5, y6⟩ := hx6.free7
        obtain ⟨W7, MC⟩ : ∃ W, w6.setCell ⟨w2.heap.size, 5, none⟩ (.int .i64 ((hi : Int) - 1)) = W := ⟨_, rfl⟩
        have Xb : W7.heap.size = w6.heap.size := by rw [← MC]; simp [World.setCell]
        rw [MC] at hs7 hx7
        have NC := Bl f HF.out left W7 g gl w.heap.size (w.heap.size + 1) r3 hlt h100 hs7.rd hs7.lf hg hs7.b2 hs7.b3
        have TV := qh MC; have Uc := qh hs7; have TU := qh hx7; have NY := qh NC
        clear MC hs7 hx7 hs6 hx6 NC
        go_wp2_with fail
        rw [TV.out]
        clear TV x0 x1 x2 x3 x4 x5 x6 y0 y1 y2 y3 y4 y5 y6
        refine NY.out.mono ?_
        rintro e w8 ⟨bQ, hm⟩
        cases hr4 : fD f left r3 with
        | none =>
          rw [hr4] at hm
          rw [vk hr4] at hO
          subst hO hm
          exact ⟨rfl, Uc.out.ch.trans bQ, rfl⟩
        | some q =>
          obtain ⟨⟨p, left'⟩, r4⟩ := q
          rw [hr4] at hm
          rw [vg hr4] at hO
          subst hO
          obtain ⟨cs, rfl, bV, hrd, hlf⟩ := hm
          obtain ⟨pk, ps, sI, Ii, phi, pA, pn, pc, rfl⟩ := bV.form
          have hs8 := Uc.out.aB bQ hrd hlf
          have hx8 := TU.out.aB bQ (by have := Uc.out.gw; have := Uc.out.gg; simp; omega)
          have hsz8 := bQ.size
          clear bQ hrd hlf Uc TU NY
          have hs9 := hs8.alloc (.cells (aZ pk ps sI Ii phi (.slice pA pn pc)).toArray 58)
          have hx9 := hx8.alloc (.cells (aZ pk ps sI Ii phi (.slice pA pn pc)).toArray 58)
          obtain ⟨p0, p1, p2, p3, p4, p5, p6⟩ := hx9.seven
          obtain ⟨y0, y1, y2, y3, y4, y5, y6⟩ := hx9.free7
          have hx10 := hx9.set_ 6 (.slice (some ⟨w8.heap.size, 0, none⟩) 1 1)
          simp only [gq1] at hx10
          have dI : av [w2.heap.size] (w8.alloc (.cells (aZ pk ps sI Ii phi (.slice pA pn pc)).toArray 58)) ((w8.alloc (.cells (aZ pk ps sI Ii phi (.slice pA pn pc)).toArray 58)).setCell ⟨w2.heap.size, 6, none⟩ (.slice (some ⟨w8.heap.size, 0, none⟩) 1 1)) := (av.refl _ _).setCell (.inl (by simp)) _
          have hown := World.ownsRow_lit (base := w8.heap.size) (e := 58) (size := 7) w8 (aZ pk ps sI Ii phi (.slice pA pn pc)).toArray 1 (Nat.le_refl _) (by unfold maxLen; omega) rfl
          have hown5 := bY hown dI (fun j hj hm => by have := hown.lt j hj; simp at hm; omega)
          have hp9 : PatsF (w8.alloc (.cells (aZ pk ps sI Ii phi (.slice pA pn pc)).toArray 58)) (fun b => W7.heap.size ≤ b ∧ b < w8.heap.size) [p] (aZ pk ps sI Ii phi (.slice pA pn pc)) :=
           iC.2 ⟨_, [], by simp, bV.aB (S := []) ((av.refl _ _).alloc _) (fun b hb => ⟨hb.2, by simp⟩) (fun b hb => hb), fB.2 rfl⟩
          have hp10 := hp9.aB (T' := fun b => w.heap.size + 3 ≤ b ∧ b < ((w8.alloc (.cells (aZ pk ps sI Ii phi (.slice pA pn pc)).toArray 58)).setCell ⟨w2.heap.size, 6, none⟩ (.slice (some ⟨w8.heap.size, 0, none⟩) 1 1)).heap.size) dI (fun b hb => ⟨by simp; omega, by simp; omega⟩) (fun b hb => ⟨by omega, Nat.lt_of_lt_of_le (by simp; omega) dI.size⟩)
          have hpn := nI (k := 5) (s := (0, 0)) (neg := false) (lo := (lo : Int)) (hi := (hi : Int) - 1) (l := [p]) (S := fun b => w.heap.size + 3 ≤ b ∧ b < ((w8.alloc (.cells (aZ pk ps sI Ii phi (.slice pA pn pc)).toArray 58)).setCell ⟨w2.heap.size, 6, none⟩ (.slice (some ⟨w8.heap.size, 0, none⟩) 1 1)).heap.size) (by unfold ok32 is32; decide) hown5 (fun b hb => by have := hown5.lt b hb; exact ⟨by omega, this.2⟩) hp10
          have vF := hs9.far hsz2 6 (.slice (some ⟨w8.heap.size, 0, none⟩) 1 1)
          have JJ := hx10
          obtain ⟨x0, x1, x2, x3, x4, x5, x6⟩ := JJ.seven
          obtain ⟨z0, z1, z2, z3, z4, z5, z6⟩ := vF.rs.seven
          obtain ⟨v0, v1, v2, v3, v4, v5, v6⟩ := vF.rs.free7
          have zJ := qh (vF.rs.st7 (.int .i64 5) (.int .u32 0) (.int .u32 0) (.bool false) (.int .i64 lo) (.int .i64 ((hi : Int) - 1)) (.slice (some ⟨w8.heap.size, 0, none⟩) 1 1))
          have aD := qh (vF.fin hpn)
          clear vF JJ
          clear hs8 hx8 hs9 hx9 hx10 hown hown5 hp9 hp10 hpn dI bV
          go_wp2
          obtain ⟨z0, z1, z2, z3, z4, z5, z6⟩ := zJ.out.seven
          exact bodyPost_ret (by simp [results, Tryz.results182, go_sem, z0, z1, z2, z3, z4, z5, z6]) rfl aD.out
   ·rw [if_neg k1, if_neg k34, if_neg k5] at hO
    subst hO
    have t1 : (kI == 1) = false := by rw [beq_eq_false_iff_ne]; omega
    have t3 : (kI == 3) = false := by rw [beq_eq_false_iff_ne]; omega
    have t4 : (kI == 4) = false := by rw [beq_eq_false_iff_ne]; omega
    have t5 : (kI == 5) = false := by rw [beq_eq_false_iff_ne]; omega
    clear k1 k34 k5
    have vF := hs3
    have JJ := bE
    obtain ⟨x0, x1, x2, x3, x4, x5, x6⟩ := JJ.seven
    obtain ⟨z0, z1, z2, z3, z4, z5, z6⟩ := vF.rs.seven
    obtain ⟨v0, v1, v2, v3, v4, v5, v6⟩ := vF.rs.free7
    have zJ := qh (vF.rs.st7 (.int .i64 kI) (.int .u32 0) (.int .u32 0) (.bool false) (.int .i64 0) (.int .i64 0) (.slice none 0 0))
    have aD := qh (vF.fin (kN _ _ kI (0, 0) false 0 0 (by unfold ok32 is32; decide)))
    clear vF JJ
    clear hs3 bE
    go_wp2
    obtain ⟨z0, z1, z2, z3, z4, z5, z6⟩ := zJ.out.seven
    exact bodyPost_ret (by simp [results, Tryz.results182, go_sem, z0, z1, z2, z3, z4, z5, z6]) rfl aD.out
theorem AR : ∀ f, MQ f
 | 0 => fun _ _ _ _ _ h => absurd h (Nat.not_lt_zero _)
 | f + 1 => fun left w g gl bs h1 h2 h3 h4 h5 => by
   cases left with
   | zero => rw [nG]; exact Gm w g gl bs h3 h4 h5
   | succ left => rw [nH]; exact Gn f (AR f) left w g gl bs (by omega) (by omega) h3 h4 h5
theorem tF : Tryz.prog.elem 36 = 5 := by kernel_rfl
theorem ES (W : World) : (sizeOf 5).run Tryz.prog W = .ok 1 W := by
 obtain ⟨i0, hi, hz0, hz1, hz2⟩ := info_parts (show (Tryz.prog.info? 5).map (fun i => (i.zero, i.size, i.bytes)) = some (some (.int .u8 0), 1, 1) by kernel_rfl)
 simp [sizeOf, typeInfo, hi, hz1]
theorem Km (A : Option Addr) (n c l h : Nat) (hl : l ≤ h) (hh : h ≤ n) (hn : n ≤ c) : ∃ A1, (∀ W : World, (Instr.slice 36 (.slice A n c) (some (.int .i64 l)) (some (.int .i64 h)) none).run Tryz.prog W = .ok (.slice A1 (h - l) (c - l)) W) ∧
 ∀ (W : World) (B : Nat) (xs : List Value), Reads W B 1 A n xs → Reads W B 1 A1 (h - l) ((xs.drop l).take (h - l)) := by
 refine ⟨if c = l then A else A.map (·.add (l * 1)), fun W => ?_, fun W B xs hr => ?_⟩
 ·rw [run_slice_lh W 36 A n c (by rw [tF]; exact Tryz.underlying36) .i64 .i64 l h (by omega) (by omega) (by omega), tF, ES]
  simp only [Result.andThen, sliced, Int.toNat_natCast]
 ·have := (hr.cut (k := l) (cap := c) (by omega) hn).pre (m := h - l) (by omega)
  simpa using this
theorem rq (A : Option Addr) (n c h : Nat) (hh : h ≤ n) (hn : n ≤ c) : ∃ A1, (∀ W : World, (Instr.slice 36 (.slice A n c) none (some (.int .i64 h)) none).run Tryz.prog W = .ok (.slice A1 h c) W) ∧
 ∀ (W : World) (B : Nat) (xs : List Value), Reads W B 1 A n xs → Reads W B 1 A1 h (xs.take h) := by
 refine ⟨if c = 0 then A else A.map (·.add (0 * 1)), fun W => ?_, fun W B xs hr => ?_⟩
 ·rw [run_slice_h W 36 A n c (by rw [tF]; exact Tryz.underlying36) .i64 h (by omega) (by omega), tF, ES]
  simp only [Result.andThen, sliced, Int.toNat_natCast, Nat.sub_zero]
 ·have := (hr.cut (k := 0) (cap := c) (by omega) hn).pre (m := h) (by omega)
  simpa using this
theorem Rd.put {w : World} {g m c1 : Nat} {bs bs' : List Nat} {A1 : Option Addr} (h : Rd w g bs) (hm : bs'.length = m) (hr : Reads w g 1 A1 m (bs'.map bv)) (h2 : m ≤ c1) (h3 : c1 ≤ maxLen) (hs : ∀ b ∈ bs', b ∈ bs) (hl : m ≤ bs.length) : Rd (w.setCell ⟨g, 0, none⟩ (.slice A1 m c1)) g bs' := by
 obtain ⟨A, c, k1, k2, k3, k4, k6, k5⟩ := h
 subst hm
 exact ⟨A1, c1, by simpa using k1.set_ 0 (.slice A1 bs'.length c1), hr.setCell (Nat.le_refl _) _, h2, h3, by omega, fun b hb => k5 b (hs b hb)⟩
def VZ (s : ByteArray) (_ : World) (v : Value) : Prop := v = .string s
theorem qM (w : World) (g : Nat) (bs : List Nat) (h : Rd w g bs) :
 Calls Tryz.prog 108 #[af g] w (jM g VZ w (bg bs)) := by
 unfold bg
 cases hr : countR bs with
 | none =>
   have hc := bN h hr
   rw [thenR_none hr]
   clear h hr
   go_enter Tryz.func108, Tryz.ntmps108
   go_wp2_with fail
   refine hc.mono ?_
   rintro e w1 ⟨rfl, h1⟩
   exact ⟨rfl, h1, rfl⟩
 | some q =>
   obtain ⟨n, r⟩ := q
   have hc := bM h hr
   have hn := dC hr
   rw [thenR_some hr]
   clear h hr
   go_enter Tryz.func108, Tryz.ntmps108
   go_wp2_with fail
   refine hc.mono ?_
   rintro e w1 ⟨rfl, h1, h2⟩
   obtain ⟨A, c, k1, k2, k3, k4, k6, k5⟩ := id h1
   obtain ⟨A1, q1, q2⟩ := rq A r.length c n hn k3
   obtain ⟨A2, p1, p2⟩ := zy A r.length c n hn k3
   have hcv := eX (c := c) (bs := r.take n) (by have := q2 w1 g _ k2; rwa [← List.map_take] at this) (fun b hb => k5 b (List.mem_of_mem_take hb))
   have hput := h1.put (bs' := r.drop n) (m := r.length - n) (c1 := c - n) (A1 := A2) (by simp) (by have := p2 w1 g _ k2; rwa [← List.map_drop] at this) (by omega) (by omega) (fun b hb => List.mem_of_mem_drop hb) (by omega)
   have J6 := h2.setCell (p := ⟨g, 0, none⟩) (.inl (by simp)) (.slice A2 (r.length - n) (c - n))
   have hc0 := k1.cell 0
   have hf0 := k1.frozen 0
   simp only [gq2] at hc0
   have X4 := qh hput; have bz := qh J6
   clear h1 h2 k1 k2 k4 k5 k6 q2 p2 hput J6 hc
   go_wp2
   go_ret
   exact ⟨bz.out, _, rfl, rfl, X4.out⟩
def Cq (g : Nat) (w : World) (o : Option (Pt × List Nat)) (e : Ending) (w' : World) : Prop :=
 av [g] w w' ∧ match o with
  | some (p, r) => ∃ cs, e = .returned (.agg cs.toArray) ∧ PatF w' (fun b => w.heap.size ≤ b ∧ b < w'.heap.size) p cs ∧ Rd w' g r
  | none => e = .panicked zI
theorem xS (w : World) (g : Nat) (bs : List Nat) (h : Rd w g bs) :
 Calls Tryz.prog 135 #[af g] w (Cq g w (kJ bs)) := by
 have e1 : (w.alloc (.cells #[.int .i64 0, .int .u32 0, .int .u32 0, .bool false, .int .i64 0, .int .i64 0, .slice none 0 0] 58)).heap.size = w.heap.size + 1 := World.size_alloc _ _
 have x2 := Blk.new (w.alloc (.cells #[.int .i64 0, .int .u32 0, .int .u32 0, .bool false, .int .i64 0, .int .i64 0, .slice none 0 0] 58)) 3 #[.int .i64 40]
 rw [e1] at x2
 have x1 := (Blk.new w 58 #[.int .i64 0, .int .u32 0, .int .u32 0, .bool false, .int .i64 0, .int .i64 0, .slice none 0 0]).alloc (.cells #[.int .i64 40] 3)
 have bQ := ((av.refl [g] w).alloc (.cells #[.int .i64 0, .int .u32 0, .int .u32 0, .bool false, .int .i64 0, .int .i64 0, .slice none 0 0] 58)).alloc (.cells #[.int .i64 40] 3)
 have hgs := h.lt
 have hc := AR 41 40 _ g (w.heap.size + 1) bs (by omega) (by omega) ((h.alloc (.cells #[.int .i64 0, .int .u32 0, .int .u32 0, .bool false, .int .i64 0, .int .i64 0, .slice none 0 0] 58)).alloc (.cells #[.int .i64 40] 3)) x2 (by omega)
 unfold kJ
 obtain ⟨o, ho⟩ : ∃ o, fD 41 40 bs = o := ⟨_, rfl⟩
 rw [ho] at hc
 have hO : thenR (fD 41 40) (fun x r => some (x.1, r)) bs = o.bind fun x => some (x.1.1, x.2) := by
  cases lg : o with
  | none => rw [lg] at ho; rw [thenR_none ho]; rfl
  | some q => obtain ⟨x, t⟩ := q; rw [lg] at ho; rw [thenR_some ho]; rfl
 rw [hO]
 have HC := qh hc; have HX := qh x1; have bz := qh bQ
 clear hc x1 x2 bQ h ho hO
 go_enter Tryz.func135, Tryz.ntmps135
 go_wp2_with fail
 refine HC.out.mono ?_
 rintro e w1 ⟨hc1, hm⟩
 have hc2 : av [g] w w1 := bz.out.new hc1 (fun i hi => by simp at hi; rcases hi with rfl | rfl; exact .inl (by simp); exact .inr (by omega))
 cases o with
 | none =>
   subst hm
   exact ⟨rfl, hc2, rfl⟩
 | some q =>
   obtain ⟨⟨p, left'⟩, r⟩ := q
   obtain ⟨cs, rfl, bV, hr, hb⟩ := hm
   obtain ⟨k, s, neg, lo, hi, A, n, c, rfl⟩ := bV.form
   have hbx1 := HX.out.aB hc1 (by simp; omega)
   obtain ⟨z0, z1, z2, z3, z4, z5, z6⟩ := hbx1.seven
   obtain ⟨y0, y1, y2, y3, y4, y5, y6⟩ := hbx1.free7
   have hx2 := hbx1.st7 (.int .i64 k) (.int .u32 s.1) (.int .u32 s.2) (.bool neg) (.int .i64 lo) (.int .i64 hi) (.slice A n c)
   have hs7 := av.st7 w1 w.heap.size (.int .i64 k) (.int .u32 s.1) (.int .u32 s.2) (.bool neg) (.int .i64 lo) (.int .i64 hi) (.slice A n c)
   have ay : Cq g w (some (p, r)) (.returned (.agg (aZ k s neg lo hi (.slice A n c)).toArray)) (st7 w1 w.heap.size (.int .i64 k) (.int .u32 s.1) (.int .u32 s.2) (.bool neg) (.int .i64 lo) (.int .i64 hi) (.slice A n c)) :=
    ⟨hc2.new hs7 (fun i hi => .inr (by rw [List.mem_singleton.1 hi]; exact Nat.le_refl _)), _, rfl, bV.aB hs7 (fun b hb => ⟨hb.2, by have := hb.1; simp at this ⊢; omega⟩) (fun b hb => ⟨by have := hb.1; simp at this; omega, Nat.lt_of_lt_of_le hb.2 hs7.size⟩), hr.aB hs7 (by simpa using hgs)⟩
   have wO := qh hx2; have aD := qh ay
   clear hc1 bV hr hb hbx1 hx2 ay hs7 hc2
   go_wp2
   obtain ⟨z0, z1, z2, z3, z4, z5, z6⟩ := wO.out.seven
   exact bodyPost_ret (by simp [results, Tryz.results135, go_sem, z0, z1, z2, z3, z4, z5, z6]) rfl aD.out
theorem Blk.free6 {w : World} {g : Nat} {t : TypeId} {a0 a1 a2 a3 a4 a5 : Value} (h : Blk w g t #[a0, a1, a2, a3, a4, a5]) :
 w.frozen? ⟨g, 0, none⟩ = false ∧ w.frozen? ⟨g, 1, none⟩ = false ∧ w.frozen? ⟨g, 2, none⟩ = false ∧ w.frozen? ⟨g, 3, none⟩ = false ∧ w.frozen? ⟨g, 4, none⟩ = false ∧ w.frozen? ⟨g, 5, none⟩ = false :=
 ⟨h.frozen 0, h.frozen 1, h.frozen 2, h.frozen 3, h.frozen 4, h.frozen 5⟩
abbrev st6 (w : World) (g : Nat) (c0 c1 c2 c3 c4 c5 : Value) : World := (((((w.setCell ⟨g, 0, none⟩ c0).setCell ⟨g, 1, none⟩ c1).setCell ⟨g, 2, none⟩ c2).setCell ⟨g, 3, none⟩ c3).setCell ⟨g, 4, none⟩ c4).setCell ⟨g, 5, none⟩ c5
theorem Blk.st6 {w : World} {g : Nat} {t : TypeId} {a0 a1 a2 a3 a4 a5 : Value} (h : Blk w g t #[a0, a1, a2, a3, a4, a5]) (c0 c1 c2 c3 c4 c5 : Value) : Blk (st6 w g c0 c1 c2 c3 c4 c5) g t #[c0, c1, c2, c3, c4, c5] := by
 have := (((((h.set_ 0 c0).set_ 1 c1).set_ 2 c2).set_ 3 c3).set_ 4 c4).set_ 5 c5
 simpa using this
theorem av.st6 (w : World) (g : Nat) (c0 c1 c2 c3 c4 c5 : Value) : av [g] w (st6 w g c0 c1 c2 c3 c4 c5) := by
 have m : ∀ i : Nat, (⟨g, i, none⟩ : Addr).block ∈ [g] ∨ w.heap.size ≤ (⟨g, i, none⟩ : Addr).block := fun i => .inl (List.mem_singleton_self g)
 exact ((((((av.refl [g] w).setCell (m 0) c0).setCell (m 1) c1).setCell (m 2) c2).setCell (m 3) c3).setCell (m 4) c4).setCell (m 5) c5
structure LB (w W : World) (g : Nat) (r : List Nat) (t : TypeId) (zs cs : Array Value) : Prop where
 ch : av [g] w W
 rd : Rd W g r
 rs : Blk W w.heap.size t zs
 bx : Blk W (w.heap.size + 1) t cs
 gw : g < w.heap.size
section
variable {w W W' : World} {g : Nat} {r r' : List Nat} {t : TypeId} {zs cs : Array Value}
theorem LB.start (h : Rd w g r) (t : TypeId) (zs : Array Value) : LB w ((w.alloc (.cells zs t)).alloc (.cells zs t)) g r t zs zs := by
 have x1 := Blk.new (w.alloc (.cells zs t)) t zs
 rw [World.size_alloc] at x1
 exact ⟨((av.refl _ w).alloc _).alloc _, (h.alloc _).alloc _, (Blk.new w _ _).alloc _, x1, h.lt⟩
theorem LB.aB (h : LB w W g r t zs cs) (hc : av [g] W W') (hr : Rd W' g r') : LB w W' g r' t zs cs := by
 have h1 := h.gw
 exact ⟨h.ch.trans hc, hr, h.rs.aB hc (by simp; omega), h.bx.aB hc (by simp; omega), h1⟩
theorem LB.set_ (h : LB w W g r t zs cs) (i : Nat) (u : Value) : LB w (W.setCell ⟨w.heap.size + 1, i, none⟩ u) g r t zs (cs.setIfInBounds i u) := by
 have h1 := h.gw
 have hc : av [w.heap.size + 1] W (W.setCell ⟨w.heap.size + 1, i, none⟩ u) := (av.refl _ _).setCell (.inl (by simp)) u
 exact ⟨h.ch.new hc (fun j hj => .inr (by simp at hj; omega)), h.rd.aB hc (by simp; omega), h.rs.aB hc (by simp), h.bx.set_ i u, h1⟩
end
def QA (x : Ot) (_ : World) (v : Value) : Prop := v = Dt x ∧ is32 x.clear ∧ ok32 x.set ∧ is32 x.take
theorem AU (w : World) (g : Nat) (bs : List Nat) (h : Rd w g bs) :
 Calls Tryz.prog 137 #[af g] w (jM g QA w (ja bs)) := by
 have hs := LB.start h 90 #[.int .i64 0, .int .u32 0, .int .u32 0, .int .u32 0, .int .u32 0, .int .i64 0]
 obtain ⟨W0, hW0⟩ : ∃ W, (w.alloc (.cells #[.int .i64 0, .int .u32 0, .int .u32 0, .int .u32 0, .int .u32 0, .int .i64 0] 90)).alloc (.cells #[.int .i64 0, .int .u32 0, .int .u32 0, .int .u32 0, .int .u32 0, .int .i64 0] 90) = W := ⟨_, rfl⟩
 rw [hW0] at hs
 have HW0 := qh hW0; have FH := qh hs
 clear hW0 hs h
 obtain ⟨o, ho⟩ : ∃ o, ja bs = o := ⟨_, rfl⟩
 rw [ho]
 unfold ja at ho
 go_enter Tryz.func137, Tryz.ntmps137
 go_wp2_with fail
 rw [HW0.out]
 clear HW0
 cases hr0 : readN bs with
 | none =>
   rw [thenR_none hr0] at ho
   subst ho
   refine (il FH.out.rd hr0).mono ?_
   rintro e w1 ⟨rfl, h1⟩
   exact ⟨rfl, FH.out.ch.trans h1, rfl⟩
 | some q =>
   obtain ⟨a, r0⟩ := q
   rw [thenR_some hr0] at ho
   have WG : a < 4294967296 := fJ hr0 FH.out.rd.all
   have hc := ik FH.out.rd hr0
   clear hr0
   refine hc.mono ?_
   rintro e u0 ⟨rfl, h1, h2⟩
   have hs := FH.out.aB h2 h1
   clear h1 h2 hc FH
   obtain ⟨x0, x1, x2, x3, x4, x5⟩ := hs.bx.six
   obtain ⟨y0, y1, y2, y3, y4, y5⟩ := hs.bx.free6
   have hs2 := (hs.set_ 0 (.int .i64 ((a : Int) - 1)))
   simp only [gq1] at hs2
   obtain ⟨W1, hW⟩ : ∃ W, (u0.setCell ⟨w.heap.size + 1, 0, none⟩ (.int .i64 ((a : Int) - 1))) = W := ⟨_, rfl⟩
   rw [hW] at hs2
   have HW := qh hW; have iZ := qh hs2
   clear hW hs2 hs
   go_wp2_with fail
   rw [HW.out]
   clear HW x0 x1 x2 x3 x4 x5 y0 y1 y2 y3 y4 y5
   cases hr1 : readN r0 with
   | none =>
     rw [thenR_none hr1] at ho
     subst ho
     refine (gB iZ.out.rd hr1).mono ?_
     rintro e w1 ⟨rfl, h1⟩
     exact ⟨rfl, iZ.out.ch.trans h1, rfl⟩
   | some q =>
     obtain ⟨c, r1⟩ := q
     rw [thenR_some hr1] at ho
     have Rb : c < 4294967296 := fJ hr1 iZ.out.rd.all
     have hc := gz iZ.out.rd hr1
     clear hr1
     refine hc.mono ?_
     rintro e u1 ⟨rfl, h1, h2⟩
     have hs := iZ.out.aB h2 h1
     clear h1 h2 hc iZ
     obtain ⟨x0, x1, x2, x3, x4, x5⟩ := hs.bx.six
     obtain ⟨y0, y1, y2, y3, y4, y5⟩ := hs.bx.free6
     have hs2 := (hs.set_ 1 (.int .u32 c))
     simp only [gq1] at hs2
     obtain ⟨W2, hW⟩ : ∃ W, (u1.setCell ⟨w.heap.size + 1, 1, none⟩ (.int .u32 c)) = W := ⟨_, rfl⟩
     rw [hW] at hs2
     have HW := qh hW; have HS2 := qh hs2
     clear hW hs2 hs
     go_wp2_with fail
     rw [HW.out]
     clear HW x0 x1 x2 x3 x4 x5 y0 y1 y2 y3 y4 y5
     cases hr2 : sndR r1 with
     | none =>
       rw [thenR_none hr2] at ho
       subst ho
       refine (kL HS2.out.rd hr2).mono ?_
       rintro e w1 ⟨rfl, h1⟩
       exact ⟨rfl, HS2.out.ch.trans h1, rfl⟩
     | some q =>
       obtain ⟨s, r2⟩ := q
       rw [thenR_some hr2] at ho
       have gI := EP hr2 HS2.out.rd.all
       have hc := kK HS2.out.rd hr2
       clear hr2
       refine hc.mono ?_
       rintro e u2 ⟨rfl, h1, h2⟩
       have hs := HS2.out.aB h2 h1
       clear h1 h2 hc HS2
       obtain ⟨x0, x1, x2, x3, x4, x5⟩ := hs.bx.six
       obtain ⟨y0, y1, y2, y3, y4, y5⟩ := hs.bx.free6
       have hs2 := ((hs.set_ 2 (.int .u32 s.1)).set_ 3 (.int .u32 s.2))
       simp only [gq1] at hs2
       obtain ⟨W3, hW⟩ : ∃ W, ((u2.setCell ⟨w.heap.size + 1, 2, none⟩ (.int .u32 s.1)).setCell ⟨w.heap.size + 1, 3, none⟩ (.int .u32 s.2)) = W := ⟨_, rfl⟩
       rw [hW] at hs2
       have HW := qh hW; have ko := qh hs2
       clear hW hs2 hs
       go_wp2_with fail
       rw [HW.out]
       clear HW x0 x1 x2 x3 x4 x5 y0 y1 y2 y3 y4 y5
       cases hr3 : readN r2 with
       | none =>
         rw [thenR_none hr3] at ho
         subst ho
         refine (gB ko.out.rd hr3).mono ?_
         rintro e w1 ⟨rfl, h1⟩
         exact ⟨rfl, ko.out.ch.trans h1, rfl⟩
       | some q =>
         obtain ⟨t, r3⟩ := q
         rw [thenR_some hr3] at ho
         have Q8 : t < 4294967296 := fJ hr3 ko.out.rd.all
         have hc := gz ko.out.rd hr3
         clear hr3
         refine hc.mono ?_
         rintro e u3 ⟨rfl, h1, h2⟩
         have hs := ko.out.aB h2 h1
         clear h1 h2 hc ko
         obtain ⟨x0, x1, x2, x3, x4, x5⟩ := hs.bx.six
         obtain ⟨y0, y1, y2, y3, y4, y5⟩ := hs.bx.free6
         have hs2 := (hs.set_ 4 (.int .u32 t))
         simp only [gq1] at hs2
         obtain ⟨W4, hW⟩ : ∃ W, (u3.setCell ⟨w.heap.size + 1, 4, none⟩ (.int .u32 t)) = W := ⟨_, rfl⟩
         rw [hW] at hs2
         have HW := qh hW; have rA := qh hs2
         clear hW hs2 hs
         go_wp2_with fail
         rw [HW.out]
         clear HW x0 x1 x2 x3 x4 x5 y0 y1 y2 y3 y4 y5
         cases hr4 : readN r3 with
         | none =>
           rw [thenR_none hr4] at ho
           subst ho
           refine (il rA.out.rd hr4).mono ?_
           rintro e w1 ⟨rfl, h1⟩
           exact ⟨rfl, rA.out.ch.trans h1, rfl⟩
         | some q =>
           obtain ⟨u, r4⟩ := q
           rw [thenR_some hr4] at ho
           have WE : u < 4294967296 := fJ hr4 rA.out.rd.all
           have hc := ik rA.out.rd hr4
           clear hr4
           refine hc.mono ?_
           rintro e u4 ⟨rfl, h1, h2⟩
           have hs := rA.out.aB h2 h1
           clear h1 h2 hc rA
           obtain ⟨x0, x1, x2, x3, x4, x5⟩ := hs.bx.six
           obtain ⟨y0, y1, y2, y3, y4, y5⟩ := hs.bx.free6
           have hs2 := (hs.set_ 5 (.int .i64 u))
           simp only [gq1] at hs2
           subst ho
           obtain ⟨p0, p1, p2, p3, p4, p5⟩ := hs2.bx.six
           obtain ⟨z0, z1, z2, z3, z4, z5⟩ := hs2.rs.six
           obtain ⟨v0, v1, v2, v3, v4, v5⟩ := hs2.rs.free6
           have hx2 := hs2.rs.st6 (.int .i64 ((a : Int) - 1)) (.int .u32 c) (.int .u32 s.1) (.int .u32 s.2) (.int .u32 t) (.int .i64 u)
           have hs6 := av.st6 (u4.setCell ⟨w.heap.size + 1, 5, none⟩ (.int .i64 u)) w.heap.size (.int .i64 ((a : Int) - 1)) (.int .u32 c) (.int .u32 s.1) (.int .u32 s.2) (.int .u32 t) (.int .i64 u)
           have ay : jM g QA w (some (⟨(a : Int) - 1, c, s, t, u⟩, r4)) (.returned (Dt ⟨(a : Int) - 1, c, s, t, u⟩)) (st6 (u4.setCell ⟨w.heap.size + 1, 5, none⟩ (.int .i64 u)) w.heap.size (.int .i64 ((a : Int) - 1)) (.int .u32 c) (.int .u32 s.1) (.int .u32 s.2) (.int .u32 t) (.int .i64 u)) :=
            ⟨hs2.ch.new hs6 (fun i hi => .inr (by rw [List.mem_singleton.1 hi]; exact Nat.le_refl _)), _, rfl, ⟨rfl, Rb, gI, Q8⟩, hs2.rd.aB hs6 (by have := hs2.gw; simpa using this)⟩
           have wO := qh hx2; have aD := qh ay
           clear hs hs2 hx2 hs6 ay WG Rb gI Q8 WE
           go_wp2
           obtain ⟨z0, z1, z2, z3, z4, z5⟩ := wO.out.six
           exact bodyPost_ret (by simp [results, Tryz.results137, go_sem, z0, z1, z2, z3, z4, z5]) rfl aD.out
end Go.Proofs.YtmepaeahchiglaaGreatDoor
