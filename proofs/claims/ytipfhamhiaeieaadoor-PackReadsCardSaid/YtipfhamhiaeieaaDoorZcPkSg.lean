/-
  layer 43: the reference's GetLaw. Conditions: bytes that can be read. (Printed by refrd5.py.)
-/
import Derived.Test.YtipfhamhiaeieaaDoorZcPkSk
import Derived.Test.YtipfhamhiaeieaaDoorZcan
import Derived.Test.YtipfhamhiaeieaaDoorZcPkRl
namespace Go.Proofs.YtipfhamhiaeieaaDoor
open Go.RowKit Go.Lib

set_option linter.unusedSimpArgs false in
set_option maxRecDepth 20000 in
set_option maxHeartbeats 4000000 in
theorem refGetLaw_any (w : World) (A : Option Addr) (n c B : Nat) (bs : List Nat) (hr : Reads w B 1 A n (bs.map bv)) (hB : B ≤ w.heap.size) (hn : n ≤ c) (hc : c ≤ maxLen) (hs : n ≤ 1073741824) (hb : ∀ b ∈ bs, b < 256) :
    Calls Tryd.prog 26 #[.slice A n c] w (GivesL w (getL bs)) := by
  obtain ⟨zl, hzl, hzlen, hzone⟩ : ∃ zl : List Value, zeroL = zl ∧ zl.length = 18 ∧ ∀ u ∈ zl, u.oneCell' = true := ⟨zeroL, rfl, rfl, by decide⟩
  have hx0 := (Blk.new w 31 #[.string ⟨#[]⟩, .int .i64 0, .int .u32 0, .int .u32 0, .bool false, .int .i64 0, .int .i64 0, .slice none 0 0, .int .i64 0, .int .u32 0, .int .u32 0, .bool false, .int .i64 0, .int .i64 0, .slice none 0 0, .slice none 0 0, .slice none 0 0, .int .i64 0]).alloc (.cells #[.slice A n c, .int .i64 0, .bool false] 82)
  have hz0 := ((Below.refl w.heap.size w).alloc (Nat.le_refl _) (.cells #[.string ⟨#[]⟩, .int .i64 0, .int .u32 0, .int .u32 0, .bool false, .int .i64 0, .int .i64 0, .slice none 0 0, .int .i64 0, .int .u32 0, .int .u32 0, .bool false, .int .i64 0, .int .i64 0, .slice none 0 0, .slice none 0 0, .slice none 0 0, .int .i64 0] 31)).alloc (by simp) (.cells #[.slice A n c, .int .i64 0, .bool false] 82)
  have h0 := rs_start (w := (w.alloc (.cells #[.string ⟨#[]⟩, .int .i64 0, .int .u32 0, .int .u32 0, .bool false, .int .i64 0, .int .i64 0, .slice none 0 0, .int .i64 0, .int .u32 0, .int .u32 0, .bool false, .int .i64 0, .int .i64 0, .slice none 0 0, .slice none 0 0, .slice none 0 0, .int .i64 0] 31))) (hr.below (((Below.refl w.heap.size w).alloc (Nat.le_refl _) (.cells #[.string ⟨#[]⟩, .int .i64 0, .int .u32 0, .int .u32 0, .bool false, .int .i64 0, .int .i64 0, .slice none 0 0, .int .i64 0, .int .u32 0, .int .u32 0, .bool false, .int .i64 0, .int .i64 0, .slice none 0 0, .slice none 0 0, .slice none 0 0, .int .i64 0] 31)).mono hB)) (by simp; omega) hn hc hs hb
  have hbl : bs.length = n := by have := hr.1; simpa using this
  rw [World.size_alloc] at h0
  have hcall := slaw_any _ (w.heap.size + 1) 0 bs false h0
  rw [List.drop_zero] at hcall
  have hx0' : Blk ((w.alloc (.cells #[.string ⟨#[]⟩, .int .i64 0, .int .u32 0, .int .u32 0, .bool false, .int .i64 0, .int .i64 0, .slice none 0 0, .int .i64 0, .int .u32 0, .int .u32 0, .bool false, .int .i64 0, .int .i64 0, .slice none 0 0, .slice none 0 0, .slice none 0 0, .int .i64 0] 31)).alloc (.cells #[.slice A n c, .int .i64 0, .bool false] 82)) w.heap.size 31 zl.toArray := by rw [← hzl]; exact hx0
  have hno := fun (W : World) (S : Nat → Prop) => noL_cells W S
  rw [hzl] at hno
  obtain ⟨W0, hW0⟩ : ∃ W, ((w.alloc (.cells #[.string ⟨#[]⟩, .int .i64 0, .int .u32 0, .int .u32 0, .bool false, .int .i64 0, .int .i64 0, .slice none 0 0, .int .i64 0, .int .u32 0, .int .u32 0, .bool false, .int .i64 0, .int .i64 0, .slice none 0 0, .slice none 0 0, .slice none 0 0, .int .i64 0] 31)).alloc (.cells #[.slice A n c, .int .i64 0, .bool false] 82)) = W := ⟨_, rfl⟩
  have hsz0 : W0.heap.size = w.heap.size + 2 := by rw [← hW0]; simp
  rw [hW0] at hcall hz0 hx0'
  obtain ⟨res, hres⟩ : ∃ res, getL bs = res := ⟨_, rfl⟩
  rw [hres]
  have HRES := Lib.hid hres; have HC := Lib.hid hcall; have HZ0 := Lib.hid hz0; have HW0 := Lib.hid hW0; have HX0 := Lib.hid hx0'; have HQV := Lib.hid hzl; have HQLEN := Lib.hid hzlen; have HQONE := Lib.hid hzone; have HNO := Lib.hid hno
  clear hr h0 hcall hz0 hx0 hx0' hW0 hres hb hzl hzlen hzone hno
  go_enter Tryd.func26, Tryd.ntmps26
  go_wp2_with fail
  rw [HW0.out]
  clear HW0
  refine HC.out.mono ?_
  rintro e w1 ⟨l, cs, at', bad', rfl, hlf, hnm, hc1, hr1, -, hg⟩
  have hgot := hg rfl
  obtain ⟨hlen, hone⟩ := hlf.all
  have hs1 := hc1.size
  have hb1 : Below w.heap.size w w1 := HZ0.out.trans (hc1.below (by simp) (by omega))
  have x1 := (HX0.out.chg hc1 (by simp)).alloc (.cells #[.string ⟨#[]⟩, .int .i64 0, .int .u32 0, .int .u32 0, .bool false, .int .i64 0, .int .i64 0, .slice none 0 0, .int .i64 0, .int .u32 0, .int .u32 0, .bool false, .int .i64 0, .int .i64 0, .slice none 0 0, .slice none 0 0, .slice none 0 0, .int .i64 0] 31)
  have y1 : Blk (w1.alloc (.cells #[.string ⟨#[]⟩, .int .i64 0, .int .u32 0, .int .u32 0, .bool false, .int .i64 0, .int .i64 0, .slice none 0 0, .int .i64 0, .int .u32 0, .int .u32 0, .bool false, .int .i64 0, .int .i64 0, .slice none 0 0, .slice none 0 0, .slice none 0 0, .int .i64 0] 31)) w1.heap.size 31 zl.toArray := by rw [← HQV.out]; exact Blk.new w1 31 #[.string ⟨#[]⟩, .int .i64 0, .int .u32 0, .int .u32 0, .bool false, .int .i64 0, .int .i64 0, .slice none 0 0, .int .i64 0, .int .u32 0, .int .u32 0, .bool false, .int .i64 0, .int .i64 0, .slice none 0 0, .slice none 0 0, .slice none 0 0, .int .i64 0]
  have hsr := Chg.setRow (w1.alloc (.cells #[.string ⟨#[]⟩, .int .i64 0, .int .u32 0, .int .u32 0, .bool false, .int .i64 0, .int .i64 0, .slice none 0 0, .int .i64 0, .int .u32 0, .int .u32 0, .bool false, .int .i64 0, .int .i64 0, .slice none 0 0, .slice none 0 0, .slice none 0 0, .int .i64 0] 31)) w1.heap.size cs.toArray
  have x2 := x1.chg hsr (by simp; omega)
  have y2 := y1.setRow cs.toArray
  have z2 := (hb1.alloc (by omega) (.cells #[.string ⟨#[]⟩, .int .i64 0, .int .u32 0, .int .u32 0, .bool false, .int .i64 0, .int .i64 0, .slice none 0 0, .int .i64 0, .int .u32 0, .int .u32 0, .bool false, .int .i64 0, .int .i64 0, .slice none 0 0, .slice none 0 0, .slice none 0 0, .int .i64 0] 31)).trans (hsr.below (by simp; omega) (by simp; omega))
  have r2 := (hr1.alloc (.cells #[.string ⟨#[]⟩, .int .i64 0, .int .u32 0, .int .u32 0, .bool false, .int .i64 0, .int .i64 0, .slice none 0 0, .int .i64 0, .int .u32 0, .int .u32 0, .bool false, .int .i64 0, .int .i64 0, .slice none 0 0, .slice none 0 0, .slice none 0 0, .int .i64 0] 31)).chg hsr (by simp; omega)
  have l2 := (hlf.chg (S' := fun b => W0.heap.size ≤ b ∧ b < w1.heap.size) ((Chg.refl [] w1).alloc (.cells #[.string ⟨#[]⟩, .int .i64 0, .int .u32 0, .int .u32 0, .bool false, .int .i64 0, .int .i64 0, .slice none 0 0, .int .i64 0, .int .u32 0, .int .u32 0, .bool false, .int .i64 0, .int .i64 0, .slice none 0 0, .slice none 0 0, .slice none 0 0, .int .i64 0] 31)) (fun b hb => ⟨hb.2, by simp⟩) (fun b hb => hb)).chg (S' := fun b => W0.heap.size ≤ b ∧ b < w1.heap.size) hsr (fun b hb => ⟨by simp; omega, by simp; omega⟩) (fun b hb => hb)
  obtain ⟨W2, hW2⟩ : ∃ W, (w1.alloc (.cells #[.string ⟨#[]⟩, .int .i64 0, .int .u32 0, .int .u32 0, .bool false, .int .i64 0, .int .i64 0, .slice none 0 0, .int .i64 0, .int .u32 0, .int .u32 0, .bool false, .int .i64 0, .int .i64 0, .slice none 0 0, .slice none 0 0, .slice none 0 0, .int .i64 0] 31)).setRow w1.heap.size cs.toArray = W := ⟨_, rfl⟩
  have hsz2 : W2.heap.size = w1.heap.size + 1 := by rw [← hW2]; simp
  rw [hW2] at x2 y2 z2 l2 r2
  obtain ⟨A1, c1, ⟨k0, k1, k2⟩, -, -, -, -⟩ := r2.cells
  have hat := r2.all.2.1
  have hck := refLawCheck_any W2 W2.heap.size l cs (l2.toC (fun b hb => by omega)) (Nat.le_refl _) (by unfold maxLen; omega)
  have HG := Lib.hid hgot; have HLEN := Lib.hid hlen; have HONE := Lib.hid hone; have Y1 := Lib.hid y1; have X2 := Lib.hid x2; have Y2 := Lib.hid y2; have Z2 := Lib.hid z2; have R2 := Lib.hid r2; have L2 := Lib.hid l2; have HW2 := Lib.hid hW2; have HCK := Lib.hid hck
  clear hlf hnm hc1 hr1 hg hgot hb1 x1 y1 hsr x2 y2 z2 r2 l2 hW2 hck HC hlen hone k0
  cases bad' with
  | true =>
    have hnone : lawR bs = none := by
      have hg := HG.out
      cases hw : lawR bs with
      | none => rfl
      | some q => rw [hw] at hg; exact absurd hg.2.1 (by decide)
    have hres : res = (noL, 0, 10) := by rw [← HRES.out]; unfold getL; rw [hnone]
    subst hres
    have x3 := X2.out.setRow zl.toArray
    have z3 := Z2.out.trans ((Chg.setRow W2 w.heap.size zl.toArray).below (by simp) Z2.out.size)
    have X3 := Lib.hid x3; have Z3 := Lib.hid z3
    clear hnone HRES HG x3 z3
    go_wp2_with (first | (refine law_store rfl _ _ rfl _ rfl cs zl rfl HLEN.out HONE.out Y1.out HQLEN.out ?_; rw [HW2.out]; simp only [Act.put]) | (refine law_store rfl _ _ rfl _ rfl zeroL zl rfl rfl (by decide) X2.out HQLEN.out ?_; rw [HQV.out]; simp only [Act.put]))
    refine bodyPost_ret (results_lawT Tryd.results26 _ _ _ _ rfl X3.out HQLEN.out) rfl ⟨zl, rfl, HNO.out _ _, Z3.out⟩
  | false =>
    have hsome : lawR bs = some (l, bs.drop at') := by
      have hg := HG.out
      cases hw : lawR bs with
      | none => rw [hw] at hg; cases hg
      | some q => obtain ⟨y, r⟩ := q; rw [hw] at hg; obtain ⟨rfl, -, rfl⟩ := hg; rfl
    have hres : (if lawOk l then (l, bs.length - (bs.drop at').length, 0) else (noL, 0, 17)) = res := by
      rw [← HRES.out]; unfold getL; rw [hsome]
    have HRES2 := Lib.hid hres
    clear hsome HG HRES hres
    go_wp2_with (first | (refine law_store rfl _ _ rfl _ rfl cs zl rfl HLEN.out HONE.out Y1.out HQLEN.out ?_; rw [HW2.out]; simp only [Act.put]) | (refine law_load rfl _ rfl _ rfl _ HLEN.out Y2.out ?_; simp only [Act.put, List.setIfInBounds_toArray, List.set_cons_zero, List.set_cons_succ]))
    refine HCK.out.mono ?_
    rintro e w3 ⟨rfl, hb3⟩
    have hs3 := hb3.size
    have x3 := X2.out.below hb3 (by omega)
    have y3 := Y2.out.below hb3 (by omega)
    have z3 := Z2.out.trans (hb3.mono (by omega))
    have k3 := (hb3.cell (p := ⟨w.heap.size + 1, 1, none⟩) (by show w.heap.size + 1 < _; omega)).trans k1
    have l3 := L2.out.keep (w' := w3) (S' := fun b => W0.heap.size ≤ b ∧ b < w1.heap.size) (fun b hb => hb) (fun q hq => hb3.cell (by omega))
    have X3 := Lib.hid x3; have Y3 := Lib.hid y3; have Z3 := Lib.hid z3; have L3 := Lib.hid l3; have K3 := Lib.hid k3
    clear hb3 x3 y3 z3 l3 k1 k2 k3 HW2 HCK X2 Y2 Z2 L2 Y1 R2
    cases h0 : lawOk l with
    | false =>
      have he := lawE_no h0
      have hne : ((17 : Int) != 0) = true := by decide
      have hres : res = (noL, 0, 17) := by rw [← HRES2.out, h0]; rfl
      clear HRES2
      subst hres
      rw [he]
      have x4 := X3.out.setRow zl.toArray
      have z4 := Z3.out.trans ((Chg.setRow w3 w.heap.size zl.toArray).below (by simp) Z3.out.size)
      have X4 := Lib.hid x4; have Z4 := Lib.hid z4
      clear x4 z4 he h0
      go_wp2_with (refine law_store rfl _ _ rfl _ rfl zeroL zl rfl rfl (by decide) X3.out HQLEN.out ?_; rw [HQV.out]; simp only [Act.put])
      refine bodyPost_ret (results_lawT Tryd.results26 _ _ _ _ rfl X4.out HQLEN.out) rfl ⟨zl, rfl, HNO.out _ _, Z4.out⟩
    | true =>
      have he := lawE_yes h0
      have hres : res = (l, at', 0) := by
        rw [← HRES2.out, h0, List.length_drop, if_pos rfl, show bs.length - (bs.length - at') = at' by omega]
      clear HRES2
      subst hres
      rw [he]
      have XE : Hid (Blk w3.drew w.heap.size 31 zl.toArray ∧ Blk w3.drew w1.heap.size 31 cs.toArray ∧ w3.drew.cell? ⟨w.heap.size + 1, 1, none⟩ = some (.int .i64 at') ∧ LawF w3.drew (fun b => W0.heap.size ≤ b ∧ b < w1.heap.size) l cs ∧ Below w.heap.size w w3.drew ∧ w1.heap.size + 1 ≤ w3.drew.heap.size) := Lib.hid ⟨X3.out, Y3.out, K3.out, L3.out.keep (fun _ h => h) (fun _ _ => rfl), Z3.out.drew, by show w1.heap.size + 1 ≤ w3.heap.size; omega⟩
      clear X3 Y3 Z3 L3 K3 he h0 hs3
      go_wp2_with fail
      refine wp_region_held_drew (S := (fun W => Blk W w1.heap.size 31 cs.toArray ∧ W.cell? ⟨w.heap.size + 1, 1, none⟩ = some (.int .i64 at'))) (by kernel_rfl) ?_ (fun hHeld => ?_)
      · (try dsimp only)
        (first | exact ⟨XE.out.2.1, XE.out.2.2.1⟩ | exact ⟨Y4.out, g4⟩ | exact ⟨YS.out, gs⟩)
      obtain ⟨w4, hw4⟩ : ∃ W, w3.drew = W := ⟨_, rfl⟩
      rw [hw4] at XE hHeld ⊢
      obtain ⟨xa, xb, xc, xl, xz, xs⟩ := XE.out
      have XA := Lib.hid xa; have Y4 := Lib.hid xb; have XL := Lib.hid xl; have XZ := Lib.hid xz
      have g4 := xc
      have hsr := Chg.setRow w4 w.heap.size cs.toArray
      have YS := Lib.hid (xb.chg hsr (by simp; omega))
      have gs : (w4.setRow w.heap.size cs.toArray).cell? ⟨w.heap.size + 1, 1, none⟩ = some (.int .i64 at') := by
        unfold World.cell?
        rw [hsr.block (w.heap.size + 1) (by omega) (by simp)]
        exact g4
      have x5 := xa.setRow cs.toArray
      have z5 := xz.trans (hsr.below (by simp) xz.size)
      have l5 := xl.chg (S' := fun b => w.heap.size ≤ b ∧ b < (w4.setRow w.heap.size cs.toArray).heap.size) hsr (fun b hb => ⟨by omega, by simp; omega⟩) (fun b hb => ⟨by omega, by simp; omega⟩)
      have X5 := Lib.hid x5; have Z5 := Lib.hid z5; have L5 := Lib.hid l5
      clear XE hw4 xa xb xc xl xz hsr x5 z5 l5
      refine wpAnyH_take (i := 0) (v := .agg cs.toArray) rfl (by kernel_rfl) (by kernel_rfl) (by kernel_rfl) (fun _ _ _ h => h) (yieldsIf_law rfl _ rfl w1.heap.size rfl cs HLEN.out (fun W hW => hW.1)) (by assumption) ?_
      try simp only [Act.put, List.getElem_toArray, List.getElem_cons_succ, List.getElem_cons_zero, List.setIfInBounds_toArray, List.set_cons_zero, List.set_cons_succ]
      refine wpAnyH_take (i := 1) (v := ?_) rfl (by kernel_rfl) (by kernel_rfl) (by kernel_rfl) (fun _ _ _ h => h) (Or.inl ⟨by rfl, ?_⟩) (by assumption) ?_
      rotate_left
      · intro w hSw
        (try dsimp only at hSw)
        go_simp <;> with_reducible rfl
      try simp only [Act.put, List.getElem_toArray, List.getElem_cons_succ, List.getElem_cons_zero, List.setIfInBounds_toArray, List.set_cons_zero, List.set_cons_succ]
      refine wpAnyH_take (i := 2) (v := ?_) rfl (by kernel_rfl) (by kernel_rfl) (by kernel_rfl) (fun _ _ _ h => h) (Or.inl ⟨by rfl, ?_⟩) (by assumption) ?_
      rotate_left
      · intro w hSw
        (try dsimp only at hSw)
        go_simp <;> with_reducible rfl
      try simp only [Act.put, List.getElem_toArray, List.getElem_cons_succ, List.getElem_cons_zero, List.setIfInBounds_toArray, List.set_cons_zero, List.set_cons_succ]
      refine wpAnyH_take (i := 3) (v := ?_) rfl (by kernel_rfl) (by kernel_rfl) (by kernel_rfl) (fun _ _ _ h => h) (Or.inl ⟨by rfl, ?_⟩) (by assumption) ?_
      rotate_left
      · intro w hSw
        (try dsimp only at hSw)
        go_simp <;> with_reducible rfl
      try simp only [Act.put, List.getElem_toArray, List.getElem_cons_succ, List.getElem_cons_zero, List.setIfInBounds_toArray, List.set_cons_zero, List.set_cons_succ]
      refine wpAnyH_take (i := 4) (v := ?_) rfl (by kernel_rfl) (by kernel_rfl) (by kernel_rfl) (fun _ _ _ h => h) (Or.inl ⟨by rfl, ?_⟩) (by assumption) ?_
      rotate_left
      · intro w hSw
        (try dsimp only at hSw)
        go_simp <;> with_reducible rfl
      try simp only [Act.put, List.getElem_toArray, List.getElem_cons_succ, List.getElem_cons_zero, List.setIfInBounds_toArray, List.set_cons_zero, List.set_cons_succ]
      refine wpAnyH_ready (rs := [5]) (by kernel_rfl) (by simp) ?_
      refine AllReadyH.cons rfl (fun K hK => ?_) AllReadyH.nil
      refine step_store_law rfl _ _ rfl _ rfl cs zl rfl HLEN.out HONE.out XA.out HQLEN.out ?_
      refine hK.out _ _ ?_ (fun hHeld' => ?_)
      · (try dsimp only)
        exact ⟨YS.out, gs⟩
      clear hK K hHeld
      have hHeld := hHeld'
      clear hHeld'
      refine wpAnyH_ready (rs := [6]) (by kernel_rfl) (by simp) ?_
      refine AllReadyH.cons rfl (fun K hK => ?_) AllReadyH.nil
      go_simp
      refine hK.out _ _ ?_ (fun hHeld' => ?_)
      · (try dsimp only)
        (first | exact ⟨XE.out.2.1, XE.out.2.2.1⟩ | exact ⟨Y4.out, g4⟩ | exact ⟨YS.out, gs⟩)
      clear hK K hHeld
      have hHeld := hHeld'
      clear hHeld'
      refine wpAnyH_ready (rs := [7]) (by kernel_rfl) (by simp) ?_
      refine AllReadyH.cons rfl (fun K hK => ?_) AllReadyH.nil
      go_simp
      refine hK.out _ _ ?_ (fun hHeld' => ?_)
      · (try dsimp only)
        (first | exact ⟨XE.out.2.1, XE.out.2.2.1⟩ | exact ⟨Y4.out, g4⟩ | exact ⟨YS.out, gs⟩)
      clear hK K hHeld
      have hHeld := hHeld'
      clear hHeld'
      refine wpAnyH_done (by kernel_rfl) ?_ _
      clear hHeld g4 gs
      go_wp2
      refine bodyPost_ret (results_lawT Tryd.results26 _ _ _ _ rfl X5.out HLEN.out) rfl ⟨cs, rfl, L5.out, Z5.out⟩
end Go.Proofs.YtipfhamhiaeieaaDoor
