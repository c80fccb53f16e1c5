/-
 layer 42: the reference's Inventory, Notation and Check of a project. Conditions: what can be read.
-/
import Derived.Test.YtmepaeahchiglaaGreatDoorZdbi
import Derived.Test.YtmepaeahchiglaaGreatDoorZdbk
set_option maxRecDepth 20000
set_option maxHeartbeats 4000000
set_option linter.unusedSimpArgs false
namespace Go.Proofs.YtmepaeahchiglaaGreatDoor
open Go.RowKit Go.Lib
def qm (w : World) (p : Pj) (e : Ending) (w' : World) : Prop :=
 Below w.heap.size w w' ∧ ((oL p = 0 ∧ ∃ g, e = .returned (.tuple #[af g, .int .i64 0]) ∧ RInv w' (ni w w') g p.aK p.aG) ∨ (oL p ≠ 0 ∧ e = .returned (.tuple #[.pointer none, .int .i64 (oL p)])))
theorem uD (w : World) (B : Nat) (p : Pj) (cs : List Value) (hp : dx w B p cs) (hB : B ≤ w.heap.size) (hr : Ct p) :
 Calls Tryz.prog 152 #[.agg cs.toArray] w (qm w p) := by
 obtain ⟨v1, v2, v3, v4, v5, v6, v7, v8, rfl, q1, q2, q3, q4, q5, q6, q7, q8⟩ := hp
 obtain ⟨A3, m3, c3, rfl, -⟩ := q3.form
 obtain ⟨A4, m4, c4, rfl, -⟩ := q4.form
 obtain ⟨A5, m5, c5, rfl, -⟩ := q5.form
 obtain ⟨A6, m6, c6, rfl, -⟩ := q6.form
 obtain ⟨A7, m7, c7, rfl, -⟩ := q7.form
 obtain ⟨A8, m8, c8, rfl, -⟩ := q8.form
 obtain ⟨A1, c1, rfl, ⟨h11, h12⟩, r1⟩ := q1.flat
 obtain ⟨A2, c2, rfl, ⟨h21, h22⟩, r2⟩ := q2.flat
 rw [flatMap_one] at r1
 unfold maxLen at h12 h22
 obtain ⟨o, ho⟩ : ∃ o, Obj.cells #[.slice A1 p.aK.length c1, .slice A2 p.aG.length c2, .slice A3 m3 c3, .slice A4 m4 c4, .slice A5 m5 c5, .slice A6 m6 c6, .slice A7 m7 c7, .slice A8 m8 c8] 33 = o := ⟨_, rfl⟩
 have hb0 := (Below.refl w.heap.size w).alloc (Nat.le_refl _) o
 have hk0 := Blk.new w 33 #[.slice A1 p.aK.length c1, .slice A2 p.aG.length c2, .slice A3 m3 c3, .slice A4 m4 c4, .slice A5 m5 c5, .slice A6 m6 c6, .slice A7 m7 c7, .slice A8 m8 c8]
 rw [ho] at hk0
 have gJ := I6 A1 p.aK.length c1 B p.aK (w.alloc o) (Reads.below r1 (hb0.mono hB)) (by rw [World.size_alloc]; omega) h11 hr.o1
 have JO := fun (W : World) (hW : Below w.heap.size w W) => Reads.below r2 (hW.mono hB)
 have hle1 : w.heap.size ≤ (w.alloc o).heap.size := by rw [World.size_alloc]; omega
 have hlt1 : w.heap.size < (w.alloc o).heap.size := by rw [World.size_alloc]; omega
 have hie : oL p = if eO p.aK = 0 then jL p.aK.length [] p.aG else eO p.aK := rfl
 have HO := qh ho; have HB0 := qh hb0; have jg := qh hk0; have wI := qh gJ; have MU := qh JO; have HR := qh hr; have U8 := qh hie
 have g0 := hk0.cell 0
 simp only [gq2] at g0
 obtain ⟨n, hn⟩ : ∃ n, p.aG.length = n := ⟨_, rfl⟩
 have hk0' := hk0
 rw [hn] at h21 hk0'
 have jg := qh hk0'
 rw [hn]
 rw [hn] at ho
 have HO := qh ho
 have HN := qh hn
 clear q1 q2 q3 q4 q5 q6 q7 q8 r1 r2 ho hb0 hk0 hk0' gJ JO hr hie hn
 go_enter Tryz.func152, Tryz.ntmps152
 go_wp2_with (rw [HO.out])
 refine wI.out.mono ?_
 rintro e w1 ⟨hb1, hcase⟩
 have HB1 := qh (HB0.out.trans (hb1.mono hle1)); have jr := qh (jg.out.below hb1 hlt1)
 have hs1 : w.heap.size < w1.heap.size := Nat.lt_of_lt_of_le hlt1 hb1.size
 clear hb1 g0 wI
 rcases hcase with ⟨hz, gi, rfl, hm⟩ | ⟨hz, rfl⟩
 ·have hie := U8.out
  rw [if_pos hz] at hie
  have KX := qh hie
  have HM := qh (hm.mono (T := fun b => w.heap.size < b ∧ b < w1.heap.size) fun b hb => ⟨Nat.lt_of_lt_of_le hlt1 hb.1, hb.2⟩)
  have g1 := jr.out.cell 1
  simp only [gq2] at g1
  clear hz hm hie
  go_wp2
  go_loopw [6] (fun i wr => ∃ k : Nat, k ≤ n ∧ i = .int .i64 k ∧ jL p.aK.length [] p.aG = jL p.aK.length (p.aG.take k) (p.aG.drop k) ∧ RInv wr (fun b => w.heap.size < b ∧ b < wr.heap.size) gi p.aK (p.aG.take k) ∧ Blk wr w.heap.size 33 #[.slice A1 p.aK.length c1, .slice A2 n c2, .slice A3 m3 c3, .slice A4 m4 c4, .slice A5 m5 c5, .slice A6 m6 c6, .slice A7 m7 c7, .slice A8 m8 c8] ∧ Below w.heap.size w wr) (fun i _ => n - (RowKit.intOf i).toNat)
  case atStart => exact ⟨0, by omega, rfl, by rw [List.take_zero, List.drop_zero], by rw [List.take_zero]; exact HM.out, jr.out, HB1.out⟩
  case round =>
   obtain ⟨k, hk, rfl, aS, him, gp, hb⟩ := hrel
   have cu := qh aS; have U7 := qh him; have nX := qh gp; have HB := qh hb
   clear aS him gp hb g1
   have g1 := nX.out.cell 1
   simp only [gq2] at g1
   by_cases hlt : k < n
   ·have bB : k < p.aG.length := by have := HN.out; omega
    have cB : (k : Int) < (n : Int) := by omega
    have hk0 : (0 : Int) ≤ (k : Int) := by omega
    obtain ⟨ad, rfl, had, e0, e1, e2⟩ := kS (MU.out wr HB.out) bB
    obtain ⟨aF, aY⟩ := vY bB cu.out
    have hox := HR.out.o2 _ (List.getElem_mem bB)
    have htk : p.aG.take (k + 1) = p.aG.take k ++ [p.aG[k]] := List.take_succ_eq_append_getElem bB
    obtain ⟨x, Ws⟩ : ∃ x, p.aG[k] = x := ⟨_, rfl⟩
    rw [Ws] at e0 e1 e2 aF aY hox htk
    obtain ⟨sy, sv, sa⟩ := x
    simp only [] at *
    have hadd := I8 (w := wr.drew) sy (sv, sa) (show RInv wr.drew (fun b => w.heap.size < b ∧ b < wr.heap.size) gi p.aK (p.aG.take k) from U7.out) (fun b hb => hb.2) hox.2 hox.1
    obtain ⟨a, ha⟩ : ∃ a, gX p.aK.length (p.aG.take k) sy (sv, sa) = a := ⟨_, rfl⟩
    unfold qo sO at hadd
    simp only [] at hadd
    rw [ha] at aF aY hadd
    have gp := nX.out
    have hS : ∀ W : World, Below w.heap.size w W → Blk W w.heap.size 33 #[.slice A1 p.aK.length c1, .slice (some ad) n c2, .slice A3 m3 c3, .slice A4 m4 c4, .slice A5 m5 c5, .slice A6 m6 c6, .slice A7 m7 c7, .slice A8 m8 c8] → W.cell? ⟨w.heap.size, 1, none⟩ = some (.slice (some ad) n c2) ∧ W.cell? (ad.add (k * 3)) = some (.string sy) ∧ W.cell? ⟨(ad.add (k * 3)).block, (ad.add (k * 3)).off + 1, none⟩ = some (.int .u32 sv) ∧ W.cell? ⟨(ad.add (k * 3)).block, (ad.add (k * 3)).off + 2, none⟩ = some (.int .u32 sa) := fun W hW hb => by
     have g1 := hb.cell 1
     simp only [gq2] at g1
     obtain ⟨ad', e', -, d0, d1, d2⟩ := kS (MU.out W hW) bB
     obtain rfl := Option.some.inj e'
     rw [Ws] at d0 d1 d2
     exact ⟨g1, d0, d1, d2⟩
    have hq := hS _ HB.out.drew gp.drew
    have JK : w.heap.size < wr.heap.size := gp.lt
    have Ih := qh hadd; have bL := qh aF; have dX := qh aY; have FD := qh htk; have XV := qh hS
    clear hadd aF aY hox htk ha hS gp e0 e1 e2 Ws
    go_wp2
    refine wp_region_held_drew (S := (fun W => W.cell? ⟨w.heap.size, 1, none⟩ = some (.slice (some ad) n c2) ∧ W.cell? (ad.add (k * 3)) = some (.string sy) ∧ W.cell? ⟨(ad.add (k * 3)).block, (ad.add (k * 3)).off + 1, none⟩ = some (.int .u32 sv) ∧ W.cell? ⟨(ad.add (k * 3)).block, (ad.add (k * 3)).off + 2, none⟩ = some (.int .u32 sa))) (by kernel_rfl) ?_ (fun ah => ?_)
    ·(try dsimp only)
     (first | exact hq | exact hs2)
    iterate 13
     refine tkH 0 (v := ?_) rfl (fun _ _ _ h => h) ?_ ?_
     rotate_left
     ·intro w hSw; (try dsimp only at hSw); (try simp only [tkN, gq3, gq1]); go_simp <;> with_reducible rfl
     try simp only [tkN, Act.put, gq3, gq1]
    refine rdH 13 fun K hK => ?_
    go_simp
    (try go_wp2_with fail)
    refine Ih.out.mono ?_
    rintro e w2 ⟨rfl, him2, bQ⟩
    have hb2 : Below w.heap.size w w2 := HB.out.drew.trans (bQ.below (B := w.heap.size) (fun i hi => Nat.le_of_lt hi.1) HB.out.size)
    have hbk2 := nX.out.drew.dQ bQ (fun h => absurd h.1 (Nat.lt_irrefl _))
    have HB2 := qh hb2
    have hs2 := XV.out w2 hb2 hbk2
    have zL := qh hbk2
    have hsz2 := bQ.size
    have PR := qh (him2.mono (T := fun b => w.heap.size < b ∧ b < w2.heap.size) fun b hb => by have h1 : wr.heap.size ≤ w2.heap.size := hsz2; have h3 := HB.out.size; exact hb.elim (fun hb => ⟨hb.1, by omega⟩) (fun hb => ⟨Nat.lt_of_lt_of_le JK hb.1, hb.2⟩))
    clear him2 bQ hb2 hbk2 hsz2
    (try go_simp)
    refine hK.out _ _ ?_ (fun aJ => ?_)
    ·(try dsimp only)
     (first | exact hq | exact hs2)
    clear hK K ah; rename _ => ah
    refine tkH 14 (v := ?_) rfl (fun _ _ _ h => h) ?_ ?_
    rotate_left
    ·intro w hSw; (try dsimp only at hSw); (try simp only [tkN, gq3, gq1]); go_simp <;> with_reducible rfl
    try simp only [tkN, Act.put, gq3, gq1]
    refine wpAnyH_done (by kernel_rfl) ?_ _
    by_cases hz : a = 0
    ·have vE : (a != (0 : Int)) = false := by rw [hz]; rfl
     have him := PR.out
     rw [if_pos hz, ← FD.out] at him
     have PQ := qh him
     have dz := qh (bL.out hz)
     clear hz him
     go_wp2
     go_roundw
     case rel => exact ⟨k + 1, by omega, by go_num, dz.out, PQ.out, zL.out, HB2.out⟩
     case measure => simp [RowKit.intOf]; omega
    ·have vE : (a != (0 : Int)) = true := by rw [bne_iff_ne]; exact hz
     have hie := KX.out.trans (dX.out hz)
     have ay : qm w p (.returned (.tuple #[.pointer none, .int .i64 a])) w2 := ⟨HB2.out, .inr ⟨by rw [hie]; exact hz, by rw [hie]⟩⟩
     have HF := qh ay
     clear hz hie ay
     go_wp2
     go_ret2
     exact HF.out
   ·obtain rfl : k = n := by omega
    have aS := cu.out
    have him := U7.out
    rw [List.drop_of_length_le (by have := HN.out; omega)] at aS
    rw [List.take_of_length_le (by have := HN.out; omega)] at him
    have hie : oL p = 0 := KX.out.trans aS
    have ay : qm w p (.returned (.tuple #[af gi, .int .i64 0])) wr := ⟨HB.out, .inl ⟨hie, gi, rfl, him.mono fun b hb => ⟨Nat.le_of_lt hb.1, hb.2⟩⟩⟩
    have HF := qh ay
    clear aS him hie ay
    go_wp2
    go_ret2
    exact HF.out
 ·have hie := U8.out
  rw [if_neg hz] at hie
  have vE : (eO p.aK != (0 : Int)) = true := by rw [bne_iff_ne]; exact hz
  have ay : qm w p (.returned (.tuple #[.pointer none, .int .i64 (eO p.aK)])) w1 := ⟨HB1.out, .inr ⟨by rw [hie]; exact hz, by rw [hie]⟩⟩
  have HF := qh ay
  clear hz hie ay
  go_wp2
  go_ret2
  exact HF.out
theorem wT (w : World) (B : Nat) (p : Pj) (cs : List Value) (hp : dx w B p cs) (hB : B ≤ w.heap.size) (hr : Ct p) :
 Calls Tryz.prog 100 #[.agg cs.toArray] w fun e w' => (∃ a, e = .returned (.tuple #[a, .int .i64 (ku p)])) ∧ Below w.heap.size w w' := by
 obtain ⟨v1, v2, v3, v4, v5, v6, v7, v8, rfl, q1, q2, q3, q4, q5, q6, q7, q8⟩ := hp
 have hp : dx w B p [v1, v2, v3, v4, v5, v6, v7, v8] := ⟨_, _, _, _, _, _, _, _, rfl, q1, q2, q3, q4, q5, q6, q7, q8⟩
 obtain ⟨A1, m1, c1, rfl, -⟩ := q1.form
 obtain ⟨A2, m2, c2, rfl, -⟩ := q2.form
 obtain ⟨A4, m4, c4, rfl, -⟩ := q4.form
 obtain ⟨A5, m5, c5, rfl, -⟩ := q5.form
 obtain ⟨A6, m6, c6, rfl, -⟩ := q6.form
 obtain ⟨A7, m7, c7, rfl, -⟩ := q7.form
 obtain ⟨A8, m8, c8, rfl, -⟩ := q8.form
 obtain ⟨A3, c3, rfl, ⟨h31, h32⟩, r3⟩ := q3.flat
 obtain ⟨n, hn⟩ : ∃ n, p.marks.length = n := ⟨_, rfl⟩
 rw [hn] at h31 hp r3 ⊢
 obtain ⟨o, ho⟩ : ∃ o, Obj.cells #[.slice A1 m1 c1, .slice A2 m2 c2, .slice A3 n c3, .slice A4 m4 c4, .slice A5 m5 c5, .slice A6 m6 c6, .slice A7 m7 c7, .slice A8 m8 c8] 33 = o := ⟨_, rfl⟩
 have hb0 := (Below.refl w.heap.size w).alloc (Nat.le_refl _) o
 have hk0 := Blk.new w 33 #[.slice A1 m1 c1, .slice A2 m2 c2, .slice A3 n c3, .slice A4 m4 c4, .slice A5 m5 c5, .slice A6 m6 c6, .slice A7 m7 c7, .slice A8 m8 c8]
 rw [ho] at hk0
 have hle1 : w.heap.size ≤ (w.alloc o).heap.size := by rw [World.size_alloc]; omega
 have hlt1 : w.heap.size < (w.alloc o).heap.size := by rw [World.size_alloc]; omega
 have dP : ∀ q : Addr, q.block < B → (w.alloc o).cell? q = w.cell? q := fun q hq => hb0.cell (Nat.lt_of_lt_of_le hq hB)
 have hinv := uD (w.alloc o) B p _ (dx.keep dP hp) (Nat.le_trans hB hle1) hr
 have hmk := fun (W : World) (hW : Below w.heap.size w W) => Reads.below r3 (hW.mono hB)
 have hle := fun (W : World) (hW : Below w.heap.size w W) => Nat.le_trans hB hW.size
 have hte := xG p
 obtain ⟨r, hr'⟩ : ∃ r, ku p = r := ⟨_, rfl⟩
 rw [hr'] at hte ⊢
 have g0 := hk0.cell 0
 have g1 := hk0.cell 1
 have g2 := hk0.cell 2
 have g3 := hk0.cell 3
 have g4 := hk0.cell 4
 have g5 := hk0.cell 5
 have g6 := hk0.cell 6
 have g7 := hk0.cell 7
 simp only [gq2] at g0 g1 g2 g3 g4 g5 g6 g7
 have HO := qh ho; have HB0 := qh hb0; have jg := qh hk0; have iW := qh hinv; have Ik := qh hmk; have U0 := qh hle; have T9 := qh hte; have Yf := qh hr.o3; have YJ := qh h31
 clear q1 q2 q3 q4 q5 q6 q7 q8 r3 ho hb0 hk0 hinv hmk hle hte dP hn hp hr hr' h31
 go_enter Tryz.func100, Tryz.ntmps100
 go_wp2_with (rw [HO.out])
 refine iW.out.mono ?_
 rintro e w1 ⟨hb1, hcase⟩
 have HB1 := qh (HB0.out.trans (hb1.mono hle1)); have jr := qh (jg.out.below hb1 hlt1)
 clear hb1 g0 g1 g2 g3 g4 g5 g6 g7 iW
 rcases hcase with ⟨hz, gi, rfl, hm⟩ | ⟨hz, rfl⟩
 ·have hte := T9.out
  rw [if_pos hz] at hte
  have KN := qh hte
  have gJ := Gr A3 n c3 B p.marks hm (Ik.out w1 HB1.out) (U0.out w1 HB1.out) YJ.out Yf.out
  have wI := qh gJ
  have g2 := jr.out.cell 2
  simp only [gq2] at g2
  clear hz hm gJ hte
  go_wp2_with fail
  refine wI.out.mono ?_
  rintro e w2 ⟨hb2, hcase⟩
  have HB2 := qh (HB1.out.trans (hb2.mono HB1.out.size))
  clear hb2 wI
  rcases hcase with ⟨hz, gn, rfl, hm⟩ | ⟨hz, rfl⟩
  ·obtain rfl : r = 0 := KN.out.trans hz
   clear hz hm
   go_wp2
   go_ret2
   exact ⟨⟨_, rfl⟩, HB2.out⟩
  ·obtain ⟨a, ha⟩ : ∃ a, jd p.aK.length p.marks = a := ⟨_, rfl⟩
   rw [ha] at hz ⊢
   obtain rfl : r = a := KN.out.trans ha
   have vE : (r != (0 : Int)) = true := by rw [bne_iff_ne]; exact hz
   clear hz
   go_wp2
   go_ret2
   exact ⟨⟨_, rfl⟩, HB2.out⟩
 ·obtain ⟨a, ha⟩ : ∃ a, oL p = a := ⟨_, rfl⟩
  have hte := T9.out
  rw [ha] at hz hte ⊢
  rw [if_neg hz] at hte
  obtain rfl : r = a := hte
  have vE : (r != (0 : Int)) = true := by rw [bne_iff_ne]; exact hz
  clear hz
  go_wp2
  go_ret2
  exact ⟨⟨_, rfl⟩, HB1.out⟩
theorem Di (w : World) (B : Nat) (p : Pj) (cs : List Value) (hp : dx w B p cs) (hB : B ≤ w.heap.size) (hr : Ct p) :
 Calls Tryz.prog 38 #[.agg cs.toArray] w fun e w' => e = .returned (.int .i64 (iX p)) ∧ Below w.heap.size w w' := by
 obtain ⟨v1, v2, v3, v4, v5, v6, v7, v8, rfl, q1, q2, q3, q4, q5, q6, q7, q8⟩ := hp
 have hp : dx w B p [v1, v2, v3, v4, v5, v6, v7, v8] := ⟨_, _, _, _, _, _, _, _, rfl, q1, q2, q3, q4, q5, q6, q7, q8⟩
 obtain ⟨A1, m1, c1, rfl, -⟩ := q1.form
 obtain ⟨A2, m2, c2, rfl, -⟩ := q2.form
 obtain ⟨A3, m3, c3, rfl, -⟩ := q3.form
 obtain ⟨A4, m4, c4, rfl, -⟩ := q4.form
 obtain ⟨A5, m5, c5, rfl, -⟩ := q5.form
 obtain ⟨A6, m6, c6, rfl, -⟩ := q6.form
 obtain ⟨A7, m7, c7, rfl, -⟩ := q7.form
 obtain ⟨A8, m8, c8, rfl, -⟩ := q8.form
 obtain ⟨o, ho⟩ : ∃ o, Obj.cells #[.slice A1 m1 c1, .slice A2 m2 c2, .slice A3 m3 c3, .slice A4 m4 c4, .slice A5 m5 c5, .slice A6 m6 c6, .slice A7 m7 c7, .slice A8 m8 c8] 33 = o := ⟨_, rfl⟩
 have hb0 := (Below.refl w.heap.size w).alloc (Nat.le_refl _) o
 have hk0 := Blk.new w 33 #[.slice A1 m1 c1, .slice A2 m2 c2, .slice A3 m3 c3, .slice A4 m4 c4, .slice A5 m5 c5, .slice A6 m6 c6, .slice A7 m7 c7, .slice A8 m8 c8]
 rw [ho] at hk0
 have hle1 : w.heap.size ≤ (w.alloc o).heap.size := by rw [World.size_alloc]; omega
 have hlt1 : w.heap.size < (w.alloc o).heap.size := by rw [World.size_alloc]; omega
 have dP := fun (W : World) (hW : Below w.heap.size w W) => fun (q : Addr) (hq : q.block < B) => hW.cell (p := q) (Nat.lt_of_lt_of_le hq hB)
 have hle := fun (W : World) (hW : Below w.heap.size w W) => Nat.le_trans hB hW.size
 have htl := wT (w.alloc o) B p _ (dx.keep (dP _ hb0) hp) (Nat.le_trans hB hle1) hr
 have hat := fun (W : World) (hW : Below w.heap.size w W) => Be _ _ _ _ _ B p.tree p.au p.on p.aA p.entries W (aP.plain (dP W hW) q4 (fun _ _ h => h)) (aP.plain (dP W hW) q5 (fun _ _ h => h.keep (dP W hW))) (aP.plain (dP W hW) q6 (fun _ _ h => si.keep (dP W hW) h)) (aP.plain (dP W hW) q7 (fun _ _ h => bn.keep (dP W hW) h)) (aP.plain (dP W hW) q8 (fun _ _ h => tN.keep (dP W hW) h)) (hle W hW) hr.o4 hr.o5 hr.o6 (fun x hx => (hr.o8 x hx).1) hr.o7 (fun x hx => (hr.o8 x hx).2)
 obtain ⟨r, aU⟩ : ∃ r, iX p = r := ⟨_, rfl⟩
 rw [aU]
 unfold iX at aU
 have g0 := hk0.cell 0
 have g1 := hk0.cell 1
 have g2 := hk0.cell 2
 have g3 := hk0.cell 3
 have g4 := hk0.cell 4
 have g5 := hk0.cell 5
 have g6 := hk0.cell 6
 have g7 := hk0.cell 7
 simp only [gq2] at g0 g1 g2 g3 g4 g5 g6 g7
 have HO := qh ho; have HB0 := qh hb0; have jg := qh hk0; have TZ := qh htl; have HAT := qh hat; have dA := qh aU
 clear q1 q2 q3 q4 q5 q6 q7 q8 ho hb0 hk0 htl hat aU dP hle hp hr
 go_enter Tryz.func38, Tryz.ntmps38
 go_wp2_with (rw [HO.out])
 refine TZ.out.mono ?_
 rintro e w1 ⟨⟨a, rfl⟩, hb1⟩
 have HB1 := qh (HB0.out.trans (hb1.mono hle1)); have jr := qh (jg.out.below hb1 hlt1)
 clear hb1 g0 g1 g2 g3 g4 g5 g6 g7 TZ
 obtain ⟨x, hx⟩ : ∃ x, ku p = x := ⟨_, rfl⟩
 have aU := dA.out
 rw [hx] at aU ⊢
 have dA := qh aU
 clear hx aU
 by_cases hz : x = 0
 ·have vE : (x != (0 : Int)) = false := by rw [hz]; rfl
  have aU := dA.out
  rw [if_pos hz] at aU
  have EL := HAT.out w1 HB1.out
  rw [aU] at EL
  have P9 := qh EL
  have g3 := jr.out.cell 3
  have g4 := jr.out.cell 4
  have g5 := jr.out.cell 5
  have g6 := jr.out.cell 6
  have g7 := jr.out.cell 7
  simp only [gq2] at g3 g4 g5 g6 g7
  clear hz aU EL dA
  go_wp2_with fail
  refine P9.out.mono ?_
  rintro e w2 ⟨rfl, hb2⟩
  have HB2 := qh (HB1.out.trans (hb2.mono HB1.out.size))
  clear hb2
  go_wp2
  go_ret
  exact ⟨rfl, HB2.out⟩
 ·have vE : (x != (0 : Int)) = true := by rw [bne_iff_ne]; exact hz
  obtain rfl : r = x := by rw [← dA.out, if_neg hz]
  clear hz
  go_wp2
  go_ret
  exact ⟨rfl, HB1.out⟩
end Go.Proofs.YtmepaeahchiglaaGreatDoor
