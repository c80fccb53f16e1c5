/-
 layer 43: SamePat, two times the same pattern. Conditions: patterns that can be read. (Printed by samepat.py.)
-/
import Derived.Test.YtmepaeahchiglaaGreatDoorZdam
set_option maxRecDepth 20000
set_option maxHeartbeats 4000000
set_option linter.unusedSimpArgs false
set_option linter.unusedVariables false
namespace Go.Proofs.YtmepaeahchiglaaGreatDoor
open Go.RowKit Go.Lib
def EC (m : Nat) : Prop := ∀ (p : Pt) (cs1 cs2 : List Value) (w : World) (B : Nat), ptSize p ≤ m → PatC w B p cs1 → PatC w B p cs2 → B ≤ w.heap.size →
 Calls Tryz.prog 205 #[.agg cs1.toArray, .agg cs2.toArray] w fun e w' => e = .returned (.bool true) ∧ Below w.heap.size w w'
theorem Gl (m : Nat) (hm : EC m) : EC (m + 1) := by
 rintro ⟨k, s, neg, lo, hi, l⟩ cs1 cs2 w B hsz h1 h2 hB
 rw [gN] at h1 h2
 obtain ⟨A1, c1, xs, rfl, h32, hl1, hc1, hr1, hp1⟩ := h1
 obtain ⟨A2, c2, ys, rfl, -, hl2, hc2, hr2, hp2⟩ := h2
 obtain ⟨a, b⟩ := s
 rw [dK] at hsz
 have aF := ((Below.refl w.heap.size w).alloc (Nat.le_refl _) (.cells #[.int .i64 k, .int .u32 a, .int .u32 b, .bool neg, .int .i64 lo, .int .i64 hi, .slice A1 l.length c1] 58)).alloc (by simp) (.cells #[.int .i64 k, .int .u32 a, .int .u32 b, .bool neg, .int .i64 lo, .int .i64 hi, .slice A2 l.length c2] 58)
 have b1 := (Blk.new w 58 #[.int .i64 k, .int .u32 a, .int .u32 b, .bool neg, .int .i64 lo, .int .i64 hi, .slice A1 l.length c1]).alloc (.cells #[.int .i64 k, .int .u32 a, .int .u32 b, .bool neg, .int .i64 lo, .int .i64 hi, .slice A2 l.length c2] 58)
 have b2 := Blk.new (w.alloc (.cells #[.int .i64 k, .int .u32 a, .int .u32 b, .bool neg, .int .i64 lo, .int .i64 hi, .slice A1 l.length c1] 58)) 58 #[.int .i64 k, .int .u32 a, .int .u32 b, .bool neg, .int .i64 lo, .int .i64 hi, .slice A2 l.length c2]
 rw [World.size_alloc] at b2
 have hr1 := hr1.below (aF.mono hB)
 have hr2 := hr2.below (aF.mono hB)
 have hp1 := hp1.below (aF.mono hB)
 have hp2 := hp2.below (aF.mono hB)
 obtain ⟨Z0, lZ⟩ : ∃ Z, (w.alloc (.cells #[.int .i64 k, .int .u32 a, .int .u32 b, .bool neg, .int .i64 lo, .int .i64 hi, .slice A1 l.length c1] 58)).alloc (.cells #[.int .i64 k, .int .u32 a, .int .u32 b, .bool neg, .int .i64 lo, .int .i64 hi, .slice A2 l.length c2] 58) = Z := ⟨_, rfl⟩
 have hsz0 : Z0.heap.size = w.heap.size + 1 + 1 := by rw [← lZ]; simp
 rw [lZ] at aF b1 b2 hr1 hr2 hp1 hp2
 have HZ0 := qh lZ; have bL := qh aF; have HB1 := qh b1; have HB2 := qh b2; have HR1 := qh hr1; have HR2 := qh hr2; have M0 := qh hp1; have Hq := qh hp2; have HM := qh hm
 unfold maxLen at hc1 hc2
 clear lZ aF b1 b2 hr1 hr2 hp1 hp2 hm h32
 show Calls _ _ #[.agg #[.int .i64 k, .int .u32 a, .int .u32 b, .bool neg, .int .i64 lo, .int .i64 hi, .slice A1 l.length c1], .agg #[.int .i64 k, .int .u32 a, .int .u32 b, .bool neg, .int .i64 lo, .int .i64 hi, .slice A2 l.length c2]] _ _
 go_enter Tryz.func205, Tryz.ntmps205
 go_wp2
 rw [HZ0.out]
 clear HZ0
 go_loopw [5] (fun i wr => ∃ j : Nat, j ≤ l.length ∧ i = .int .i64 j ∧ Below Z0.heap.size Z0 wr) (fun i _ => l.length - (RowKit.intOf i).toNat)
 case atStart => exact ⟨0, Nat.zero_le _, rfl, Below.refl _ _⟩
 case round =>
  obtain ⟨j, hj, rfl, hb⟩ := hrel
  obtain ⟨c0, c1', c2', c3, c4, c5, c6⟩ := (HB1.out.below hb (by omega)).seven
  obtain ⟨d0, d1, d2, d3, d4, d5, d6⟩ := (HB2.out.below hb (by omega)).seven
  have HB := qh hb
  have hbs := hb.size
  clear hb
  by_cases hlt : j < l.length
  ·have JU : (j : Int) < (l.length : Int) := by omega
   obtain ⟨ad1, pk, ps, sI, Ii, phi, pA, pn, pc, rfl, had1, hpc1, e0, e1, e2, e3, e4, e5, e6⟩ := kM (HR1.out.below (HB.out.mono (by omega))) (M0.out.below (HB.out.mono (by omega))) rfl hlt
   obtain ⟨ad2, qk, qs, iw, qN, qO, qA, qn, qc, rfl, had2, hpc2, f0, f1, f2, f3, f4, f5, f6⟩ := kM (HR2.out.below (HB.out.mono (by omega))) (Hq.out.below (HB.out.mono (by omega))) rfl hlt
   have ae := fun W (hW : Below wr.heap.size wr W) => HM.out l[j] _ _ W B (by have := oG (List.getElem_mem hlt); omega) (hpc1.below (hW.mono (by omega))) (hpc2.below (hW.mono (by omega))) (by have := hW.size; omega)
   have aj := qh ae
   have nW : Hid (∀ W : World, Below wr.heap.size wr W → W.cell? ⟨w.heap.size, 6, none⟩ = some (.slice (some ad1) l.length c1) ∧ W.cell? ⟨w.heap.size + 1, 6, none⟩ = some (.slice (some ad2) l.length c2) ∧ (W.cell? (ad1.add (j * 7)) = some (.int .i64 pk) ∧ W.cell? ⟨(ad1.add (j * 7)).block, (ad1.add (j * 7)).off + 1, none⟩ = some (.int .u32 ps.1) ∧ W.cell? ⟨(ad1.add (j * 7)).block, (ad1.add (j * 7)).off + 2, none⟩ = some (.int .u32 ps.2) ∧ W.cell? ⟨(ad1.add (j * 7)).block, (ad1.add (j * 7)).off + 3, none⟩ = some (.bool sI) ∧ W.cell? ⟨(ad1.add (j * 7)).block, (ad1.add (j * 7)).off + 4, none⟩ = some (.int .i64 Ii) ∧ W.cell? ⟨(ad1.add (j * 7)).block, (ad1.add (j * 7)).off + 5, none⟩ = some (.int .i64 phi) ∧ W.cell? ⟨(ad1.add (j * 7)).block, (ad1.add (j * 7)).off + 6, none⟩ = some (.slice pA pn pc)) ∧ (W.cell? (ad2.add (j * 7)) = some (.int .i64 qk) ∧ W.cell? ⟨(ad2.add (j * 7)).block, (ad2.add (j * 7)).off + 1, none⟩ = some (.int .u32 qs.1) ∧ W.cell? ⟨(ad2.add (j * 7)).block, (ad2.add (j * 7)).off + 2, none⟩ = some (.int .u32 qs.2) ∧ W.cell? ⟨(ad2.add (j * 7)).block, (ad2.add (j * 7)).off + 3, none⟩ = some (.bool iw) ∧ W.cell? ⟨(ad2.add (j * 7)).block, (ad2.add (j * 7)).off + 4, none⟩ = some (.int .i64 qN) ∧ W.cell? ⟨(ad2.add (j * 7)).block, (ad2.add (j * 7)).off + 5, none⟩ = some (.int .i64 qO) ∧ W.cell? ⟨(ad2.add (j * 7)).block, (ad2.add (j * 7)).off + 6, none⟩ = some (.slice qA qn qc))) := qh fun W hW => ⟨(hW.cell (p := ⟨w.heap.size, 6, none⟩) (by omega : w.heap.size < wr.heap.size)).trans c6, (hW.cell (p := ⟨w.heap.size + 1, 6, none⟩) (by omega : w.heap.size + 1 < wr.heap.size)).trans d6, ⟨(hW.cell (p := ad1.add (j * 7)) (by rw [block_of_add]; omega)).trans e0, (hW.cell (p := ⟨(ad1.add (j * 7)).block, (ad1.add (j * 7)).off + 1, none⟩) (by rw [block_of_add]; omega)).trans e1, (hW.cell (p := ⟨(ad1.add (j * 7)).block, (ad1.add (j * 7)).off + 2, none⟩) (by rw [block_of_add]; omega)).trans e2, (hW.cell (p := ⟨(ad1.add (j * 7)).block, (ad1.add (j * 7)).off + 3, none⟩) (by rw [block_of_add]; omega)).trans e3, (hW.cell (p := ⟨(ad1.add (j * 7)).block, (ad1.add (j * 7)).off + 4, none⟩) (by rw [block_of_add]; omega)).trans e4, (hW.cell (p := ⟨(ad1.add (j * 7)).block, (ad1.add (j * 7)).off + 5, none⟩) (by rw [block_of_add]; omega)).trans e5, (hW.cell (p := ⟨(ad1.add (j * 7)).block, (ad1.add (j * 7)).off + 6, none⟩) (by rw [block_of_add]; omega)).trans e6⟩, ⟨(hW.cell (p := ad2.add (j * 7)) (by rw [block_of_add]; omega)).trans f0, (hW.cell (p := ⟨(ad2.add (j * 7)).block, (ad2.add (j * 7)).off + 1, none⟩) (by rw [block_of_add]; omega)).trans f1, (hW.cell (p := ⟨(ad2.add (j * 7)).block, (ad2.add (j * 7)).off + 2, none⟩) (by rw [block_of_add]; omega)).trans f2, (hW.cell (p := ⟨(ad2.add (j * 7)).block, (ad2.add (j * 7)).off + 3, none⟩) (by rw [block_of_add]; omega)).trans f3, (hW.cell (p := ⟨(ad2.add (j * 7)).block, (ad2.add (j * 7)).off + 4, none⟩) (by rw [block_of_add]; omega)).trans f4, (hW.cell (p := ⟨(ad2.add (j * 7)).block, (ad2.add (j * 7)).off + 5, none⟩) (by rw [block_of_add]; omega)).trans f5, (hW.cell (p := ⟨(ad2.add (j * 7)).block, (ad2.add (j * 7)).off + 6, none⟩) (by rw [block_of_add]; omega)).trans f6⟩⟩
   clear ae hpc1 hpc2
   go_wp2
   refine wp_region_held_drew (S := (fun W => W.cell? ⟨w.heap.size, 6, none⟩ = some (.slice (some ad1) l.length c1) ∧ W.cell? ⟨w.heap.size + 1, 6, none⟩ = some (.slice (some ad2) l.length c2) ∧ (W.cell? (ad1.add (j * 7)) = some (.int .i64 pk) ∧ W.cell? ⟨(ad1.add (j * 7)).block, (ad1.add (j * 7)).off + 1, none⟩ = some (.int .u32 ps.1) ∧ W.cell? ⟨(ad1.add (j * 7)).block, (ad1.add (j * 7)).off + 2, none⟩ = some (.int .u32 ps.2) ∧ W.cell? ⟨(ad1.add (j * 7)).block, (ad1.add (j * 7)).off + 3, none⟩ = some (.bool sI) ∧ W.cell? ⟨(ad1.add (j * 7)).block, (ad1.add (j * 7)).off + 4, none⟩ = some (.int .i64 Ii) ∧ W.cell? ⟨(ad1.add (j * 7)).block, (ad1.add (j * 7)).off + 5, none⟩ = some (.int .i64 phi) ∧ W.cell? ⟨(ad1.add (j * 7)).block, (ad1.add (j * 7)).off + 6, none⟩ = some (.slice pA pn pc)) ∧ (W.cell? (ad2.add (j * 7)) = some (.int .i64 qk) ∧ W.cell? ⟨(ad2.add (j * 7)).block, (ad2.add (j * 7)).off + 1, none⟩ = some (.int .u32 qs.1) ∧ W.cell? ⟨(ad2.add (j * 7)).block, (ad2.add (j * 7)).off + 2, none⟩ = some (.int .u32 qs.2) ∧ W.cell? ⟨(ad2.add (j * 7)).block, (ad2.add (j * 7)).off + 3, none⟩ = some (.bool iw) ∧ W.cell? ⟨(ad2.add (j * 7)).block, (ad2.add (j * 7)).off + 4, none⟩ = some (.int .i64 qN) ∧ W.cell? ⟨(ad2.add (j * 7)).block, (ad2.add (j * 7)).off + 5, none⟩ = some (.int .i64 qO) ∧ W.cell? ⟨(ad2.add (j * 7)).block, (ad2.add (j * 7)).off + 6, none⟩ = some (.slice qA qn qc)))) (by kernel_rfl) ?_ (fun ah => ?_)
   ·(try dsimp only)
    (first | exact nW.out _ ((Below.refl _ _).drew) | exact nW.out _ (Below.refl _ _) | exact nW.out _ mh.out)
   iterate 10
    refine tkH 0 (v := ?_) rfl (fun _ _ _ h => h) ?_ ?_
    rotate_left
    ·intro w hSw; (try dsimp only at hSw); (try simp only [tkN, gq3, gq1]); go_simp <;> with_reducible rfl
    try simp only [tkN, Act.put, gq3, gq1]
   refine rdH 10 fun K hK => ?_
   go_simp
   (try go_wp2_with fail)
   refine (aj.out _ ((Below.refl _ _).drew)).mono ?_
   rintro e w5 ⟨rfl, hb5⟩
   have mh : Hid (Below wr.heap.size wr w5) := qh (((Below.refl _ wr).drew).trans hb5)
   clear hb5
   (try go_simp)
   refine hK.out _ _ ?_ (fun aJ => ?_)
   ·(try dsimp only)
    (first | exact nW.out _ ((Below.refl _ _).drew) | exact nW.out _ (Below.refl _ _) | exact nW.out _ mh.out)
   clear hK K ah; rename _ => ah
   refine tkH 11 (v := ?_) rfl (fun _ _ _ h => h) ?_ ?_
   rotate_left
   ·intro w hSw; (try dsimp only at hSw); (try simp only [tkN, gq3, gq1]); go_simp <;> with_reducible rfl
   try simp only [tkN, Act.put, gq3, gq1]
   refine wpAnyH_done (by kernel_rfl) ?_ _
   go_wp2
   go_roundw
   case rel => exact ⟨j + 1, by omega, by go_num, HB.out.trans (mh.out.mono hbs)⟩
   case measure => simp [RowKit.intOf]; omega
  ·obtain rfl : j = l.length := by omega
   go_wp2
   go_ret
   exact ⟨rfl, bL.out.trans (HB.out.mono (by omega))⟩
theorem uq : ∀ m, EC m
 | 0 => fun p _ _ _ _ h => absurd (oF p) (by omega)
 | m + 1 => Gl m (uq m)
theorem Az (w : World) (B : Nat) (l : Lw) (cs1 cs2 : List Value) (h1 : fI w B l cs1) (h2 : fI w B l cs2) (hB : B ≤ w.heap.size) (hnm : l.name.size ≤ maxLen) :
 Calls Tryz.prog 169 #[.agg cs1.toArray, .agg cs2.toArray] w fun e w' => e = .returned (.bool true) ∧ Below w.heap.size w w' := by
 obtain ⟨QT, Lx, QG, Js, J4, Vw, QO, c1a, QR, Lu, QF, Jq, JX, Vt, QM, TF, Vr, TD, Vp, TB, rfl, -, -, -, -, hs3, hs4, hm3, hm4⟩ := h1.form
 obtain ⟨QS, Lv, n1b, Jr, JY, Vv, QN, TG, QQ, Lt, QE, Jp, JV, Vs, QL, TE, Vq, TC, Vo, TA, rfl, -, -, -, -, -, -, -, -⟩ := h2.form
 obtain ⟨nm, left, right, ifs, outs, mode⟩ := l
 simp only at hs3 hs4 hm3 hm4 hnm ⊢
 unfold maxLen at hm3 hm4 hnm
 have aF := ((Below.refl w.heap.size w).alloc (Nat.le_refl _) (.cells #[.string nm, .int .i64 QT, .int .u32 Lx.1, .int .u32 Lx.2, .bool QG, .int .i64 Js, .int .i64 J4, .slice Vw QO c1a, .int .i64 QR, .int .u32 Lu.1, .int .u32 Lu.2, .bool QF, .int .i64 Jq, .int .i64 JX, .slice Vt QM TF, .slice Vr ifs.length TD, .slice Vp outs.length TB, .int .i64 mode] 62)).alloc (by simp) (.cells #[.string nm, .int .i64 QS, .int .u32 Lv.1, .int .u32 Lv.2, .bool n1b, .int .i64 Jr, .int .i64 JY, .slice Vv QN TG, .int .i64 QQ, .int .u32 Lt.1, .int .u32 Lt.2, .bool QE, .int .i64 Jp, .int .i64 JV, .slice Vs QL TE, .slice Vq ifs.length TC, .slice Vo outs.length TA, .int .i64 mode] 62)
 have b1 := (Blk.new w 62 #[.string nm, .int .i64 QT, .int .u32 Lx.1, .int .u32 Lx.2, .bool QG, .int .i64 Js, .int .i64 J4, .slice Vw QO c1a, .int .i64 QR, .int .u32 Lu.1, .int .u32 Lu.2, .bool QF, .int .i64 Jq, .int .i64 JX, .slice Vt QM TF, .slice Vr ifs.length TD, .slice Vp outs.length TB, .int .i64 mode]).alloc (.cells #[.string nm, .int .i64 QS, .int .u32 Lv.1, .int .u32 Lv.2, .bool n1b, .int .i64 Jr, .int .i64 JY, .slice Vv QN TG, .int .i64 QQ, .int .u32 Lt.1, .int .u32 Lt.2, .bool QE, .int .i64 Jp, .int .i64 JV, .slice Vs QL TE, .slice Vq ifs.length TC, .slice Vo outs.length TA, .int .i64 mode] 62)
 have b2 := Blk.new (w.alloc (.cells #[.string nm, .int .i64 QT, .int .u32 Lx.1, .int .u32 Lx.2, .bool QG, .int .i64 Js, .int .i64 J4, .slice Vw QO c1a, .int .i64 QR, .int .u32 Lu.1, .int .u32 Lu.2, .bool QF, .int .i64 Jq, .int .i64 JX, .slice Vt QM TF, .slice Vr ifs.length TD, .slice Vp outs.length TB, .int .i64 mode] 62)) 62 #[.string nm, .int .i64 QS, .int .u32 Lv.1, .int .u32 Lv.2, .bool n1b, .int .i64 Jr, .int .i64 JY, .slice Vv QN TG, .int .i64 QQ, .int .u32 Lt.1, .int .u32 Lt.2, .bool QE, .int .i64 Jp, .int .i64 JV, .slice Vs QL TE, .slice Vq ifs.length TC, .slice Vo outs.length TA, .int .i64 mode]
 rw [World.size_alloc] at b2
 have hl1 := h1.below (aF.mono hB)
 have hl2 := h2.below (aF.mono hB)
 obtain ⟨Z0, lZ⟩ : ∃ Z, (w.alloc (.cells #[.string nm, .int .i64 QT, .int .u32 Lx.1, .int .u32 Lx.2, .bool QG, .int .i64 Js, .int .i64 J4, .slice Vw QO c1a, .int .i64 QR, .int .u32 Lu.1, .int .u32 Lu.2, .bool QF, .int .i64 Jq, .int .i64 JX, .slice Vt QM TF, .slice Vr ifs.length TD, .slice Vp outs.length TB, .int .i64 mode] 62)).alloc (.cells #[.string nm, .int .i64 QS, .int .u32 Lv.1, .int .u32 Lv.2, .bool n1b, .int .i64 Jr, .int .i64 JY, .slice Vv QN TG, .int .i64 QQ, .int .u32 Lt.1, .int .u32 Lt.2, .bool QE, .int .i64 Jp, .int .i64 JV, .slice Vs QL TE, .slice Vq ifs.length TC, .slice Vo outs.length TA, .int .i64 mode] 62) = Z := ⟨_, rfl⟩
 have hsz0 : Z0.heap.size = w.heap.size + 1 + 1 := by rw [← lZ]; simp
 rw [lZ] at aF b1 b2 hl1 hl2
 have hp1 := fun W (hW : Below Z0.heap.size Z0 W) => bJ (hl1.below (hW.mono (by omega)))
 have hp2 := fun W (hW : Below Z0.heap.size Z0 W) => bJ (hl2.below (hW.mono (by omega)))
 have HZ0 := qh lZ; have bL := qh aF; have HB1 := qh b1; have HB2 := qh b2; have M0 := qh hp1; have Hq := qh hp2
 clear lZ aF b1 b2 hl1 hl2 hp1 hp2 h1 h2 hs3 hs4
 show Calls _ _ #[.agg #[.string nm, .int .i64 QT, .int .u32 Lx.1, .int .u32 Lx.2, .bool QG, .int .i64 Js, .int .i64 J4, .slice Vw QO c1a, .int .i64 QR, .int .u32 Lu.1, .int .u32 Lu.2, .bool QF, .int .i64 Jq, .int .i64 JX, .slice Vt QM TF, .slice Vr ifs.length TD, .slice Vp outs.length TB, .int .i64 mode], .agg #[.string nm, .int .i64 QS, .int .u32 Lv.1, .int .u32 Lv.2, .bool n1b, .int .i64 Jr, .int .i64 JY, .slice Vv QN TG, .int .i64 QQ, .int .u32 Lt.1, .int .u32 Lt.2, .bool QE, .int .i64 Jp, .int .i64 JV, .slice Vs QL TE, .slice Vq ifs.length TC, .slice Vo outs.length TA, .int .i64 mode]] _ _
 go_enter Tryz.func169, Tryz.ntmps169
 go_wp2_with fail
 rw [HZ0.out]
 clear HZ0
 refine (uq _ left _ _ Z0 B (Nat.le_refl _) (M0.out _ (Below.refl _ _)).1 (Hq.out _ (Below.refl _ _)).1 (by omega)).mono ?_
 rintro e w1 ⟨rfl, hb1⟩
 obtain ⟨y0, y1, y2, y3, y4, y5, y6, y7, y8, y9, y10, y11, y12, y13, y14, y15, y16, y17⟩ := (HB1.out.below hb1 (by omega)).eighteen
 obtain ⟨v0, v1, v2, v3, v4, v5, v6, v7, v8, v9, v10, v11, v12, v13, v14, v15, v16, v17⟩ := (HB2.out.below hb1 (by omega)).eighteen
 have H1 := qh hb1
 have hsz1 := hb1.size
 clear hb1
 go_wp2_with fail
 refine (uq _ right _ _ w1 B (Nat.le_refl _) (M0.out _ H1.out).2.1 (Hq.out _ H1.out).2.1 (by omega)).mono ?_
 rintro e w2 ⟨rfl, hb2⟩
 clear y0 y1 y2 y3 y4 y5 y6 y7 y8 y9 y10 y11 y12 y13 y14 y15 y16 y17 v0 v1 v2 v3 v4 v5 v6 v7 v8 v9 v10 v11 v12 v13 v14 v15 v16 v17
 have hb2' := H1.out.trans (hb2.mono hsz1)
 obtain ⟨y0, y1, y2, y3, y4, y5, y6, y7, y8, y9, y10, y11, y12, y13, y14, y15, y16, y17⟩ := (HB1.out.below hb2' (by omega)).eighteen
 obtain ⟨v0, v1, v2, v3, v4, v5, v6, v7, v8, v9, v10, v11, v12, v13, v14, v15, v16, v17⟩ := (HB2.out.below hb2' (by omega)).eighteen
 have H2 := qh hb2'
 have hsz2 := hb2'.size
 clear hb2 hb2'
 go_wp2
 clear y0 y1 y2 y3 y4 y5 y6 y7 y8 y9 y10 y11 y12 y13 y14 y15 y16 y17 v0 v1 v2 v3 v4 v5 v6 v7 v8 v9 v10 v11 v12 v13 v14 v15 v16 v17
 go_loopw [5] (fun i wr => ∃ j : Nat, j ≤ ifs.length ∧ i = .int .i64 j ∧ Below Z0.heap.size Z0 wr) (fun i _ => ifs.length - (RowKit.intOf i).toNat)
 case atStart => exact ⟨0, Nat.zero_le _, rfl, H2.out⟩
 case round =>
  obtain ⟨j, hj, rfl, hb⟩ := hrel
  obtain ⟨y0, y1, y2, y3, y4, y5, y6, y7, y8, y9, y10, y11, y12, y13, y14, y15, y16, y17⟩ := (HB1.out.below hb (by omega)).eighteen
  obtain ⟨v0, v1, v2, v3, v4, v5, v6, v7, v8, v9, v10, v11, v12, v13, v14, v15, v16, v17⟩ := (HB2.out.below hb (by omega)).eighteen
  obtain ⟨-, -, r1, -⟩ := M0.out _ hb
  obtain ⟨-, -, r2, -⟩ := Hq.out _ hb
  have HB := qh hb
  clear hb
  by_cases hlt : j < ifs.length
  ·have JU : (j : Int) < (ifs.length : Int) := by omega
   obtain ⟨ad1, rfl, had1, e0, e1⟩ := fA r1 hlt
   obtain ⟨ad2, rfl, had2, f0, f1⟩ := fA r2 hlt
   clear r1 r2
   generalize ifs[j] = s at *
   go_wp2
   go_quiet (fail)
   go_wp2
   go_roundw
   case rel => exact ⟨j + 1, by omega, by go_num, HB.out.trans (⟨rfl, rfl, rfl, Nat.le_refl _, fun _ _ => rfl⟩)⟩
   case measure => simp [RowKit.intOf]; omega
  ·obtain rfl : j = ifs.length := by omega
   clear r1 r2
   go_wp2
   clear y0 y1 y2 y3 y4 y5 y6 y7 y8 y9 y10 y11 y12 y13 y14 y15 y16 y17 v0 v1 v2 v3 v4 v5 v6 v7 v8 v9 v10 v11 v12 v13 v14 v15 v16 v17
   go_loopw [6] (fun i wr => ∃ j : Nat, j ≤ outs.length ∧ i = .int .i64 j ∧ Below Z0.heap.size Z0 wr) (fun i _ => outs.length - (RowKit.intOf i).toNat)
   case atStart => exact ⟨0, Nat.zero_le _, rfl, HB.out⟩
   case round =>
    obtain ⟨j, hj, rfl, hb⟩ := hrel
    obtain ⟨y0, y1, y2, y3, y4, y5, y6, y7, y8, y9, y10, y11, y12, y13, y14, y15, y16, y17⟩ := (HB1.out.below hb (by omega)).eighteen
    obtain ⟨v0, v1, v2, v3, v4, v5, v6, v7, v8, v9, v10, v11, v12, v13, v14, v15, v16, v17⟩ := (HB2.out.below hb (by omega)).eighteen
    obtain ⟨-, -, -, r1⟩ := M0.out _ hb
    obtain ⟨-, -, -, r2⟩ := Hq.out _ hb
    have HC := qh hb
    clear hb
    by_cases hlt : j < outs.length
    ·have JU : (j : Int) < (outs.length : Int) := by omega
     obtain ⟨ad1, rfl, had1, e0, e1, e2, e3, e4, e5⟩ := kP r1 hlt
     obtain ⟨ad2, rfl, had2, f0, f1, f2, f3, f4, f5⟩ := kP r2 hlt
     clear r1 r2
     generalize outs[j] = s at *
     go_wp2
     go_quiet (fail)
     go_wp2
     go_roundw
     case rel => exact ⟨j + 1, by omega, by go_num, HC.out.trans (⟨rfl, rfl, rfl, Nat.le_refl _, fun _ _ => rfl⟩)⟩
     case measure => simp [RowKit.intOf]; omega
    ·obtain rfl : j = outs.length := by omega
     clear r1 r2
     go_wp2
     go_ret
     exact ⟨rfl, bL.out.trans (HC.out.mono (by omega))⟩
theorem aP.at_ {α : Type} {P : World → Nat → α → List Value → Prop} {k B n c : Nat} {w W : World} {A : Option Addr} {l : List α} (hk : ∀ x cs, P w B x cs → cs.length = k) (h : aP P k w B l (.slice A n c)) (hb : Below w.heap.size w W) (hB : B ≤ w.heap.size) {i : Nat} (hi : i < l.length) :
 ∃ ad cs, A = some ad ∧ P w B l[i] cs ∧ (∀ u, cs[0]? = some u → W.cell? (ad.add (i * k)) = some u) ∧ (∀ j u, cs[j + 1]? = some u → W.cell? ⟨(ad.add (i * k)).block, (ad.add (i * k)).off + (j + 1), none⟩ = some u) ∧ ∀ j u, cs[j]? = some u → W.cell? ((ad.add (i * k)).add j) = some u := by
 obtain ⟨ad, cs, e, hbl, hP, hc⟩ := aW hk h hi
 have h1 : ∀ j u, cs[j]? = some u → W.cell? (ad.add (i * k + j)) = some u := fun j u hu => by
  rw [hb.cell (p := ad.add (i * k + j)) (by rw [block_of_add]; omega)]
  exact hc j u hu
 exact ⟨ad, cs, e, hP, fun u hu => by have := h1 0 u hu; rwa [Nat.add_zero] at this, fun j u hu => by rw [← aH ad (i * k) j]; exact h1 _ u hu, fun j u hu => by rw [add_add]; exact h1 j u hu⟩
theorem GQ (w : World) (B : Nat) (l : List (ByteArray)) (v v' : Value) (h : aP Pd 1 w B l v) (h' : aP Pd 1 w B l v') (hB : B ≤ w.heap.size) :
 Calls Tryz.prog 56 #[v, v'] w fun e w' => e = .returned (.bool true) ∧ Below w.heap.size w w' := by
 obtain ⟨A, n, c, rfl, hn⟩ := h.form
 obtain ⟨A', n', c', rfl, hn'⟩ := h'.form
 obtain rfl : n' = n := by rw [hn, hn']
 obtain ⟨-, hm1, hm2⟩ := h.len
 unfold maxLen at hm2
 have HH := qh h; have Hy := qh h'; have HN := qh hn
 clear h h' hn hn'
 go_enter Tryz.func56, Tryz.ntmps56
 go_wp2
 go_loopw [13] (fun i wr => ∃ k : Nat, k ≤ n' ∧ i = .int .i64 k ∧ Below w.heap.size w wr) (fun i _ => n' - (RowKit.intOf i).toNat)
 case atStart => exact ⟨0, by omega, rfl, Below.refl _ _⟩
 case round =>
  obtain ⟨k, hk, rfl, hbw⟩ := hrel
  have aQ := qh hbw
  clear hbw
  by_cases hlt : k < n'
  ·have bB : k < l.length := by have := HN.out; omega
   have cB : (k : Int) < (n' : Int) := by omega
   obtain ⟨ad, cs, rfl, hP, hc0, aC, -⟩ := aP.at_ (fun x cs h => by obtain rfl : cs = [Value.string x] := h; rfl) HH.out aQ.out hB bB
   obtain ⟨ad', cs', rfl, hP', hc0', iR, -⟩ := aP.at_ (fun x cs h => by obtain rfl : cs = [Value.string x] := h; rfl) Hy.out aQ.out hB bB
   generalize l[k] = x at *
   obtain rfl : cs = [Value.string x] := hP
   obtain rfl : cs' = [Value.string x] := hP'
   have e0 := hc0 _ rfl
   have d0 := hc0' _ rfl
   rw [Nat.mul_one] at e0 d0
   clear hc0 aC hc0' iR
   go_wp2
   go_region
   go_wp2
   go_roundw
   case rel => exact ⟨k + 1, by omega, by go_num, aQ.out.drew⟩
   case measure => simp [RowKit.intOf]; omega
  ·obtain rfl : k = n' := by omega
   go_wp2
   go_ret
   exact ⟨rfl, aQ.out⟩
theorem GR (w : World) (B : Nat) (l : List (fw)) (v v' : Value) (h : aP Pk 3 w B l v) (h' : aP Pk 3 w B l v') (hB : B ≤ w.heap.size) :
 Calls Tryz.prog 57 #[v, v'] w fun e w' => e = .returned (.bool true) ∧ Below w.heap.size w w' := by
 obtain ⟨A, n, c, rfl, hn⟩ := h.form
 obtain ⟨A', n', c', rfl, hn'⟩ := h'.form
 obtain rfl : n' = n := by rw [hn, hn']
 obtain ⟨-, hm1, hm2⟩ := h.len
 unfold maxLen at hm2
 have HH := qh h; have Hy := qh h'; have HN := qh hn
 clear h h' hn hn'
 go_enter Tryz.func57, Tryz.ntmps57
 go_wp2
 go_loopw [13] (fun i wr => ∃ k : Nat, k ≤ n' ∧ i = .int .i64 k ∧ Below w.heap.size w wr) (fun i _ => n' - (RowKit.intOf i).toNat)
 case atStart => exact ⟨0, by omega, rfl, Below.refl _ _⟩
 case round =>
  obtain ⟨k, hk, rfl, hbw⟩ := hrel
  have aQ := qh hbw
  clear hbw
  by_cases hlt : k < n'
  ·have bB : k < l.length := by have := HN.out; omega
   have cB : (k : Int) < (n' : Int) := by omega
   obtain ⟨ad, cs, rfl, hP, hc0, aC, -⟩ := aP.at_ (fun x cs h => by obtain rfl : cs = eP x := h; rfl) HH.out aQ.out hB bB
   obtain ⟨ad', cs', rfl, hP', hc0', iR, -⟩ := aP.at_ (fun x cs h => by obtain rfl : cs = eP x := h; rfl) Hy.out aQ.out hB bB
   generalize l[k] = x at *
   obtain rfl : cs = eP x := hP
   obtain rfl : cs' = eP x := hP'
   have e0 := hc0 _ rfl
   have d0 := hc0' _ rfl
   have e1 := aC 0 _ rfl
   have d1 := iR 0 _ rfl
   have e2 := aC 1 _ rfl
   have d2 := iR 1 _ rfl
   clear hc0 aC hc0' iR
   go_wp2
   go_region
   go_wp2
   go_roundw
   case rel => exact ⟨k + 1, by omega, by go_num, aQ.out.drew⟩
   case measure => simp [RowKit.intOf]; omega
  ·obtain rfl : k = n' := by omega
   go_wp2
   go_ret
   exact ⟨rfl, aQ.out⟩
theorem Kj (w : World) (B : Nat) (l : List (Mk)) (v v' : Value) (h : aP Pm 4 w B l v) (h' : aP Pm 4 w B l v') (hB : B ≤ w.heap.size) :
 Calls Tryz.prog 58 #[v, v'] w fun e w' => e = .returned (.bool true) ∧ Below w.heap.size w w' := by
 obtain ⟨A, n, c, rfl, hn⟩ := h.form
 obtain ⟨A', n', c', rfl, hn'⟩ := h'.form
 obtain rfl : n' = n := by rw [hn, hn']
 obtain ⟨-, hm1, hm2⟩ := h.len
 unfold maxLen at hm2
 have HH := qh h; have Hy := qh h'; have HN := qh hn
 clear h h' hn hn'
 go_enter Tryz.func58, Tryz.ntmps58
 go_wp2
 go_loopw [13] (fun i wr => ∃ k : Nat, k ≤ n' ∧ i = .int .i64 k ∧ Below w.heap.size w wr) (fun i _ => n' - (RowKit.intOf i).toNat)
 case atStart => exact ⟨0, by omega, rfl, Below.refl _ _⟩
 case round =>
  obtain ⟨k, hk, rfl, hbw⟩ := hrel
  have aQ := qh hbw
  clear hbw
  by_cases hlt : k < n'
  ·have bB : k < l.length := by have := HN.out; omega
   have cB : (k : Int) < (n' : Int) := by omega
   obtain ⟨ad, cs, rfl, hP, hc0, aC, -⟩ := aP.at_ (fun x cs h => by obtain rfl : cs = ib x := h; rfl) HH.out aQ.out hB bB
   obtain ⟨ad', cs', rfl, hP', hc0', iR, -⟩ := aP.at_ (fun x cs h => by obtain rfl : cs = ib x := h; rfl) Hy.out aQ.out hB bB
   generalize l[k] = x at *
   obtain rfl : cs = ib x := hP
   obtain rfl : cs' = ib x := hP'
   have e0 := hc0 _ rfl
   have d0 := hc0' _ rfl
   have e1 := aC 0 _ rfl
   have d1 := iR 0 _ rfl
   have e2 := aC 1 _ rfl
   have d2 := iR 1 _ rfl
   have e3 := aC 2 _ rfl
   have d3 := iR 2 _ rfl
   clear hc0 aC hc0' iR
   go_wp2
   go_region
   go_wp2
   go_roundw
   case rel => exact ⟨k + 1, by omega, by go_num, aQ.out.drew⟩
   case measure => simp [RowKit.intOf]; omega
  ·obtain rfl : k = n' := by omega
   go_wp2
   go_ret
   exact ⟨rfl, aQ.out⟩
theorem GU (w : World) (B : Nat) (l : List (Int)) (v v' : Value) (h : aP Pn 1 w B l v) (h' : aP Pn 1 w B l v') (hB : B ≤ w.heap.size) :
 Calls Tryz.prog 126 #[v, v'] w fun e w' => e = .returned (.bool true) ∧ Below w.heap.size w w' := by
 obtain ⟨A, n, c, rfl, hn⟩ := h.form
 obtain ⟨A', n', c', rfl, hn'⟩ := h'.form
 obtain rfl : n' = n := by rw [hn, hn']
 obtain ⟨-, hm1, hm2⟩ := h.len
 unfold maxLen at hm2
 have HH := qh h; have Hy := qh h'; have HN := qh hn
 clear h h' hn hn'
 go_enter Tryz.func126, Tryz.ntmps126
 go_wp2
 go_loopw [5] (fun i wr => ∃ k : Nat, k ≤ n' ∧ i = .int .i64 k ∧ Below w.heap.size w wr) (fun i _ => n' - (RowKit.intOf i).toNat)
 case atStart => exact ⟨0, by omega, rfl, Below.refl _ _⟩
 case round =>
  obtain ⟨k, hk, rfl, hbw⟩ := hrel
  have aQ := qh hbw
  clear hbw
  by_cases hlt : k < n'
  ·have bB : k < l.length := by have := HN.out; omega
   have cB : (k : Int) < (n' : Int) := by omega
   obtain ⟨ad, cs, rfl, hP, hc0, aC, -⟩ := aP.at_ (fun x cs h => by obtain rfl : cs = [Value.int .i64 x] := h; rfl) HH.out aQ.out hB bB
   obtain ⟨ad', cs', rfl, hP', hc0', iR, -⟩ := aP.at_ (fun x cs h => by obtain rfl : cs = [Value.int .i64 x] := h; rfl) Hy.out aQ.out hB bB
   generalize l[k] = x at *
   obtain rfl : cs = [Value.int .i64 x] := hP
   obtain rfl : cs' = [Value.int .i64 x] := hP'
   have e0 := hc0 _ rfl
   have d0 := hc0' _ rfl
   rw [Nat.mul_one] at e0 d0
   clear hc0 aC hc0' iR
   go_wp2
   go_region
   go_wp2
   go_roundw
   case rel => exact ⟨k + 1, by omega, by go_num, aQ.out.drew⟩
   case measure => simp [RowKit.intOf]; omega
  ·obtain rfl : k = n' := by omega
   go_wp2
   go_ret
   exact ⟨rfl, aQ.out⟩
theorem DT {w : World} {q : Addr} {cs : List Value} (hlen : cs.length = 18) (hc : ∀ j u, cs[j]? = some u → w.cell? (q.add j) = some u) : (loadVar 62 q).run Tryz.prog w = .ok (.agg cs.toArray) w := by
 obtain ⟨fs, hfs⟩ := nK
 have hl : (loadCells q cs.length).run Tryz.prog w = .ok cs.toArray w := run_loadCells_list w q cs hc
 have hi := kU
 cases hq : Tryz.prog.info? 62 with
 | none => rw [hq] at hi; cases hi
 | some i =>
   have hs : i.size = cs.length := by rw [hq] at hi; rw [hlen]; exact Option.some.inj hi
   have hagg : (isAgg 62).run Tryz.prog w = .ok true w := by
    unfold isAgg
    rw [Sem.run_bind, run_underlying hfs w]
    simp
   simp [loadVar, Sem.run_bind, hagg, sizeOf, typeInfo, hq, hs, hl]
def oV (W : World) (q : Addr) (cs : List Value) : Prop := ∀ j u, cs[j]? = some u → W.cell? (q.add j) = some u
theorem lS {ops : Array Oper} {S : World → Prop} {op : Oper} {a : Act} (hw : Region.wanted op (yielded ops a.tmps) = true) (x : Operand) (ho : op.op = .load 62 x)
 (q : Addr) (hx : a.eval x = .pointer (some q)) (cs : List Value) (hlen : cs.length = 18) (hS : ∀ W, S W → oV W q cs) : YieldsIf Tryz.prog ops S op (.agg cs.toArray) a :=
 .inl ⟨hw, fun W hW => by
  unfold execOp
  simp only [ho, hx, Instr.loadAt, Instr.sureAddr, Sem.run_bind, Sem.run_pure, Result.andThen_ok, DT hlen (hS W hW)]⟩
theorem Ei (w : World) (B : Nat) (l : List Lw) (v v' : Value) (h : aP fI 18 w B l v) (h' : aP fI 18 w B l v') (hB : B ≤ w.heap.size) (hnm : ∀ x ∈ l, x.name.size ≤ maxLen) :
 Calls Tryz.prog 125 #[v, v'] w fun e w' => e = .returned (.bool true) ∧ Below w.heap.size w w' := by
 obtain ⟨A, n, c, rfl, hn⟩ := h.form
 obtain ⟨A', n', c', rfl, hn'⟩ := h'.form
 obtain rfl : n' = n := by rw [hn, hn']
 obtain ⟨-, hm1, hm2⟩ := h.len
 unfold maxLen at hm2
 have HH := qh h; have Hy := qh h'; have HN := qh hn; have rC := qh hnm
 clear h h' hn hn' hnm
 go_enter Tryz.func125, Tryz.ntmps125
 go_wp2
 go_loopw [5] (fun i wr => ∃ k : Nat, k ≤ n' ∧ i = .int .i64 k ∧ Below w.heap.size w wr) (fun i _ => n' - (RowKit.intOf i).toNat)
 case atStart => exact ⟨0, by omega, rfl, Below.refl _ _⟩
 case round =>
  obtain ⟨k, hk, rfl, hbw⟩ := hrel
  have aQ := qh hbw
  clear hbw
  by_cases hlt : k < n'
  ·have bB : k < l.length := by have := HN.out; omega
   have cB : (k : Int) < (n' : Int) := by omega
   have hk0 : (0 : Int) ≤ (k : Int) := by omega
   obtain ⟨ad, cs, rfl, hP, -, -, aC⟩ := aP.at_ (fun _ _ h => fC h) HH.out aQ.out hB bB
   obtain ⟨ad', cs', rfl, hP', -, -, iR⟩ := aP.at_ (fun _ _ h => fC h) Hy.out aQ.out hB bB
   have ZQ := rC.out _ (List.getElem_mem bB)
   generalize l[k] = x at *
   have hl1 := fC hP
   have hl2 := fC hP'
   have ae := Az wr.drew B x cs cs' (hP.below (aQ.out.drew.mono hB)) (hP'.below (aQ.out.drew.mono hB)) (by have := aQ.out.drew.size; omega) ZQ
   have hq : oV wr.drew (ad.add (k * 18)) cs ∧ oV wr.drew (ad'.add (k * 18)) cs' := ⟨aC, iR⟩
   have hq2 : ∀ W, Below wr.drew.heap.size wr.drew W → oV W (ad.add (k * 18)) cs ∧ oV W (ad'.add (k * 18)) cs' := fun W hW => by
    obtain ⟨-, -, e1, hP1, -, -, hx1⟩ := aP.at_ (fun _ _ h => fC h) HH.out (aQ.out.drew.trans (hW.mono aQ.out.drew.size)) hB bB
    exact ⟨fun j u hu => by
     have hlt := World.block_lt_of_cell? wr.drew _ (aC j u hu)
     rw [hW.cell (p := (ad.add (k * 18)).add j) hlt]
     exact aC j u hu, fun j u hu => by
     have hlt := World.block_lt_of_cell? wr.drew _ (iR j u hu)
     rw [hW.cell (p := (ad'.add (k * 18)).add j) hlt]
     exact iR j u hu⟩
   have aj := qh ae; have Cw := qh hq2; have PK := qh hl1; have HL2 := qh hl2
   clear aC iR ae hP hP' hq2 hl1 hl2
   go_wp2
   refine wp_region_held_drew (S := (fun W => oV W (ad.add (k * 18)) cs ∧ oV W (ad'.add (k * 18)) cs')) (by kernel_rfl) ?_ (fun ah => ?_)
   ·(try dsimp only)
    (first | exact hq | exact hs2)
   iterate 3
    refine tkH 0 (v := ?_) rfl (fun _ _ _ h => h) ?_ ?_
    rotate_left
    ·intro w hSw; (try dsimp only at hSw); (try simp only [tkN, gq3, gq1]); go_simp <;> with_reducible rfl
    try simp only [tkN, Act.put, gq3, gq1]
   refine wpAnyH_take (i := 3) (v := .agg cs.toArray) rfl (by kernel_rfl) (by kernel_rfl) (by kernel_rfl) (fun _ _ _ h => h) (lS (by rfl) _ rfl (ad.add (k * 18)) (by rfl) cs PK.out (fun W hW => hW.1)) (by assumption) ?_
   try simp only [Act.put, gq3, gq1]
   iterate 3
    refine tkH 4 (v := ?_) rfl (fun _ _ _ h => h) ?_ ?_
    rotate_left
    ·intro w hSw; (try dsimp only at hSw); (try simp only [tkN, gq3, gq1]); go_simp <;> with_reducible rfl
    try simp only [tkN, Act.put, gq3, gq1]
   refine wpAnyH_take (i := 7) (v := .agg cs'.toArray) rfl (by kernel_rfl) (by kernel_rfl) (by kernel_rfl) (fun _ _ _ h => h) (lS (by rfl) _ rfl (ad'.add (k * 18)) (by rfl) cs' HL2.out (fun W hW => hW.2)) (by assumption) ?_
   try simp only [Act.put, gq3, gq1]
   refine rdH 8 fun K hK => ?_
   go_simp
   (try go_wp2_with fail)
   refine aj.out.mono ?_
   rintro e w2 ⟨rfl, hb2⟩
   have hs2 := Cw.out w2 hb2
   have HB2 := qh (aQ.out.drew.trans (hb2.mono aQ.out.drew.size))
   clear hb2
   (try go_simp)
   refine hK.out _ _ ?_ (fun aJ => ?_)
   ·(try dsimp only)
    (first | exact hq | exact hs2)
   clear hK K ah; rename _ => ah
   refine tkH 9 (v := ?_) rfl (fun _ _ _ h => h) ?_ ?_
   rotate_left
   ·intro w hSw; (try dsimp only at hSw); (try simp only [tkN, gq3, gq1]); go_simp <;> with_reducible rfl
   try simp only [tkN, Act.put, gq3, gq1]
   refine wpAnyH_done (by kernel_rfl) ?_ _
   clear ah hs2 hq
   go_wp2
   go_roundw
   case rel => exact ⟨k + 1, by omega, by go_num, HB2.out⟩
   case measure => simp [RowKit.intOf]; omega
  ·obtain rfl : k = n' := by omega
   go_wp2
   go_ret
   exact ⟨rfl, aQ.out⟩
end Go.Proofs.YtmepaeahchiglaaGreatDoor
