/-
  Layer 40: slices.SortFunc's pdqsort on a row of texts, compared by a method. Conditions: indices in the row.
-/
import Derived.Test.YtgkpoopiamicnaaDoorDtVa
import Derived.Test.YtgkpoopiamicnaaDoorDtV7
import Derived.Deep.DeepCutAuto
import Derived.Deep.LoopGhost
namespace Go.Proofs.YtgkpoopiamicnaaDoor
open Go.RowKit Go.Lib
section
variable {α : Type} [Inhabited α] {enc : α → ByteArray} {B : Nat} {w0 W W' : World} {blk : Nat} {d : Array α}
theorem hintN_two {h : Sort.Hint} (e : h ≠ .decreasing) : ¬ hintN h = 2 := by cases h <;> simp_all [hintN]
theorem hintN_one {h : Sort.Hint} : (hintN h = 1) ↔ h = .increasing := by cases h <;> simp [hintN]
theorem pivotR {cf : α → α → Int} {a b : Nat} {r : Nat × Sort.Hint} (h : Sort.choosePivot (ltC cf) d a b = r) : PivPost enc B w0 blk d (Sort.choosePivot (ltC cf) d a b) = PivPost enc B w0 blk d r := by rw [h]
set_option linter.unusedSimpArgs false in
set_option maxRecDepth 20000 in
set_option maxHeartbeats 32000000 in
theorem vpdq (cf : α → α → Int) (g : Nat) (hC : CmpM enc cf B w0 g) (hO : Sort.SWO (ltC cf)) (cap N : Nat) (hsz : N ≤ 1000000) : ∀ (M a b limit : Nat) (d : Array α) (W : World), b - a < M → a ≤ b → b ≤ N → d.size = N → limit ≤ 1000 → Sort.Below (ltC cf) a b d → StR enc B w0 blk d W →
    Calls Tryd.prog 67 #[.slice (some ⟨blk, 0, none⟩) N cap, .int .i64 a, .int .i64 b, .int .i64 limit, ordV g] W fun e W' => e = .returned (.tuple #[]) ∧ StR enc B w0 blk (Sort.pdq (ltC cf) d a b limit true true) W' := by
  intro M
  induction M with
  | zero => intro _ _ _ _ _ h; exact absurd h (Nat.not_lt_zero _)
  | succ M ih =>
    intro a b limit d W hM hab hb hds hlimit hB0 h
    have IH := Lib.hid ih; have HC := Lib.hid hC; have H := Lib.hid h; have HB0 := Lib.hid hB0; have HO := Lib.hid hO; have HDS := Lib.hid hds
    clear ih hC h hB0 hO hds
    go_enter Tryd.func67, Tryd.ntmps67
    go_wp2
    go_loopg [1, 2, 3, 10, 11] (b - a) (fun kx s1 s2 s3 s8 s9 wr => ∃ (a' b' lim : Nat) (wb wp : Bool) (dk : Array α), s1 = .int .i64 a' ∧ s2 = .int .i64 b' ∧ s3 = .int .i64 lim ∧ s8 = .bool wb ∧ s9 = .bool wp ∧
      a' ≤ b' ∧ b' ≤ N ∧ b' - a' ≤ kx ∧ kx ≤ b - a ∧ lim ≤ limit ∧ dk.size = N ∧ Hid (Sort.Below (ltC cf) a' b' dk) ∧ StR enc B w0 blk dk wr ∧ Hid (Sort.pdq (ltC cf) dk a' b' lim wb wp = Sort.pdq (ltC cf) d a b limit true true))
    case atStart => exact ⟨a, b, limit, true, true, d, rfl, rfl, rfl, rfl, rfl, hab, hb, Nat.le_refl _, Nat.le_refl _, Nat.le_refl _, HDS.out, HB0, H.out, rfl⟩
    case round =>
      obtain ⟨a', b', lim, wb, wp, dk, rfl, rfl, rfl, rfl, rfl, hab', hb', hkx, hkN, hlim, hsk, HB, hst, HA⟩ := hrel
      have HSK := Lib.hid hsk; have HST := Lib.hid hst
      clear hst
      by_cases h12 : b' - a' ≤ 12
      · have h12z : (b' : Int) - (a' : Int) ≤ 12 := by omega
        have hc := vinsert cf g HC.out cap a' b' hab' (by omega) (by omega) HST.out
        rw [hsk] at hc
        clear hsk
        go_wp2_with fail
        refine hc.mono ?_
        rintro e w1 ⟨rfl, hw1⟩
        have HW := Lib.hid hw1
        clear hc hw1
        go_wp2
        exact bodyPost_ret (v := .tuple #[]) (by simp [results, Tryd.results67, go_sem]) rfl ⟨rfl, by rw [← HA.out, Sort.pdq_small h12]; exact HW.out⟩
      · have h12z : ¬ (b' : Int) - (a' : Int) ≤ 12 := by omega
        by_cases hl0 : lim = 0
        · subst hl0
          have hc := vheap cf g HC.out cap a' b' (by omega) (by omega) (by omega) HST.out
          rw [hsk] at hc
          clear hsk
          go_wp2_with fail
          refine hc.mono ?_
          rintro e w1 ⟨rfl, hw1⟩
          have HW := Lib.hid hw1
          clear hc hw1
          go_wp2
          exact bodyPost_ret (v := .tuple #[]) (by simp [results, Tryd.results67, go_sem]) rfl ⟨rfl, by rw [← HA.out, Sort.pdq_heap h12 rfl]; exact HW.out⟩
        · have hl0z : ¬ ((lim : Int) = 0) := by omega
          obtain ⟨t1, B1, hc1, t2, B2, hpv, t3, B3⟩ := Sort.rd_facts (lt := (ltC cf)) (limit := lim) (wb := wb) (wp := wp) HO.out Sort.partialInsertionSort_holds Sort.reverseRange_holds (show a' < b' by omega) (show b' ≤ dk.size by omega) HB.out
          obtain ⟨R, hR⟩ : ∃ R, Sort.rd (ltC cf) dk a' b' lim wb wp = R := ⟨_, rfl⟩
          rw [hR] at t1 B1 hc1 t2 B2 hpv t3 B3
          have hll : R.lim ≤ lim := by rw [← hR]; exact Sort.rd_lim_le
          obtain ⟨e1, lm, ⟨cp, ch⟩, e2, pv, ht, ⟨e3, pb⟩⟩ := R
          dsimp only at t1 B1 hc1 t2 B2 hpv t3 B3 hll
          rw [hsk] at t1 t2 t3
          have HR := Lib.hid hR; have HB3 := Lib.hid B3
          have F1 := Lib.hid (show wb = false → Sort.breakPatterns dk a' b' = e1 ∧ lim - 1 = lm from fun e => by subst e; exact ⟨congrArg Sort.Rd.d1 hR, congrArg Sort.Rd.lim hR⟩)
          have F2 := Lib.hid (show wb = true → dk = e1 ∧ lim = lm from fun e => by subst e; exact ⟨congrArg Sort.Rd.d1 hR, congrArg Sort.Rd.lim hR⟩)
          have F3 := Lib.hid (show Sort.choosePivot (ltC cf) e1 a' b' = (cp, ch) by
            have := congrArg Sort.Rd.c hR
            rw [Sort.rd_c, show (Sort.rd (ltC cf) dk a' b' lim wb wp).d1 = e1 from congrArg Sort.Rd.d1 hR] at this
            exact this)
          have F4 := Lib.hid (show ch = .decreasing → Sort.reverseRange e1 a' b' = e2 ∧ (b' - 1) - (cp - a') = pv ∧ ht = .increasing from fun e => by
            have := Sort.rd_dec (lt := ltC cf) (d := dk) (a := a') (b := b') (limit := lim) (wb := wb) (wp := wp) (by rw [hR]; exact e)
            rw [hR] at this
            exact ⟨this.1.symm, this.2.1.symm, this.2.2⟩)
          have F5 := Lib.hid (show ch ≠ .decreasing → e1 = e2 ∧ cp = pv ∧ ht = ch from fun e => by
            have := Sort.rd_not (lt := ltC cf) (d := dk) (a := a') (b := b') (limit := lim) (wb := wb) (wp := wp) (by rw [hR]; exact e)
            rw [hR] at this
            exact ⟨this.1.symm, this.2.1.symm, this.2.2⟩)
          have F6 := Lib.hid (show (wb && wp && decide (ht = .increasing)) = true → Sort.partialInsertionSort (ltC cf) e2 a' b' = (e3, pb) from fun e => by
            have := Sort.rd_pi_yes (lt := ltC cf) (d := dk) (a := a') (b := b') (limit := lim) (wb := wb) (wp := wp) (by rw [hR]; exact e)
            rw [hR] at this
            exact this.symm)
          have F7 := Lib.hid (show (wb && wp && decide (ht = .increasing)) = false → e2 = e3 ∧ pb = false from fun e => by
            have := Sort.rd_pi_no (lt := ltC cf) (d := dk) (a := a') (b := b') (limit := lim) (wb := wb) (wp := wp) (by rw [hR]; exact e)
            rw [hR] at this
            exact ⟨(congrArg Prod.fst this).symm, congrArg Prod.snd this⟩)
          have T1 := Lib.hid t1; have T2 := Lib.hid t2; have T3 := Lib.hid t3
          obtain ⟨hc1a, hc1b⟩ := hc1
          obtain ⟨hpva, hpvb⟩ := hpv
          clear hR B1 B2 B3 t1 t2 t3 hsk
          go_upto_if 39 with fail
          go_cut [3] (fun s3 wc => s3 = .int .i64 lm ∧ StR enc B w0 blk e1 wc)
          case first =>
            cases wb
            · have hc := vbreak (k := ordV g) (cap := cap) (a := a') (b := b') (by omega) (by rw [HSK.out]; omega) (by rw [HSK.out]; omega) HST.out
              rw [HSK.out, (F1.out rfl).1] at hc
              have X2 := Lib.hid (F1.out rfl).2
              clear F1 F2
              go_wp2_with fail
              refine hc.mono ?_
              rintro e w1 ⟨rfl, hw1⟩
              have HW := Lib.hid hw1
              clear hc hw1
              go_wp2
              go_meet
              case rel => exact ⟨by have := X2.out; congr 1; omega, HW.out⟩
            · have X1 := Lib.hid (F2.out rfl).1; have X2 := Lib.hid (F2.out rfl).2
              clear F1 F2
              go_wp2_with fail
              go_meet
              case rel => exact ⟨by rw [X2.out], by rw [← X1.out]; exact HST.out⟩
          case rest =>
            obtain ⟨rfl, hst1⟩ := hcut
            have hcp := vpivot cf g HC.out cap a' b' (by omega) (by rw [T1.out]; omega) (by rw [T1.out]; omega) hst1
            rw [T1.out, pivotR F3.out] at hcp
            clear hst1
            go_wp2_with fail
            refine hcp.mono ?_
            rintro e w2 ⟨rfl, hst2⟩
            go_upto_if 56 with fail
            have HST2 := Lib.hid hst2
            clear hcp hst2
            go_cut [13, 14] (fun s11 s12 wc => s11 = .int .i64 pv ∧ s12 = .int .i64 (hintN ht) ∧ StR enc B w0 blk e2 wc)
            case first =>
              by_cases hh : ch = .decreasing
              · have hcode : hintN ch = 2 := by rw [hh]; rfl
                obtain ⟨x1, x2, x3⟩ := F4.out hh
                have hc18 := vreverse (ordV g) cap a' b' (by omega) (by rw [T1.out]; omega) (by rw [T1.out]; omega) HST2.out
                rw [T1.out, x1] at hc18
                have X2 := Lib.hid x2; have X3 := Lib.hid x3
                clear x1 x2 x3 hh
                go_wp2_with fail
                refine hc18.mono ?_
                rintro e w3 ⟨rfl, hw3⟩
                have HW := Lib.hid hw3
                clear hc18 hw3
                go_wp2
                go_meet
                case rel => exact ⟨by have := X2.out; congr 1; omega, by rw [X3.out]; rfl, HW.out⟩
              · have hcode : ¬ hintN ch = 2 := hintN_two hh
                obtain ⟨x1, x2, x3⟩ := F5.out hh
                have X1 := Lib.hid x1; have X2 := Lib.hid x2; have X3 := Lib.hid x3
                clear x1 x2 x3 hh
                go_wp2_with fail
                go_meet
                case rel => exact ⟨by rw [X2.out], by rw [X3.out], by rw [← X1.out]; exact HST2.out⟩
            case rest =>
              obtain ⟨rfl, rfl, hst3⟩ := hcut
              have HST3 := Lib.hid hst3
              clear hst3
              go_upto_region 15 with fail
              go_cut [14, 75] (fun s12 s68 wx => s12 = .int .i64 (hintN ht) ∧ s68 = .bool (wb && wp && decide (ht = .increasing)) ∧ wx = wc)
              case first =>
                cases wb <;> cases wp <;> cases ht <;>
                  (dsimp only [hintN]
                   go_wp2_with fail
                   go_meet
                   case rel => exact ⟨rfl, rfl, rfl⟩)
              case rest =>
                obtain ⟨rfl, rfl, rfl⟩ := hcut
                go_upto_if 75 with fail
                go_cut [] (fun wx => pb = false ∧ StR enc B w0 blk e3 wx)
                case first =>
                  cases h68 : (wb && wp && decide (ht = .increasing))
                  · obtain ⟨x1, x2⟩ := F7.out h68
                    have X1 := Lib.hid x1; have X2 := Lib.hid x2
                    clear x1 x2
                    go_wp2_with fail
                    go_meet
                    case rel => exact ⟨X2.out, by rw [← X1.out]; exact HST3.out⟩
                  · have hc19 := vpins cf g HC.out cap a' b' (by omega) (by rw [T2.out]; omega) (by rw [T2.out]; omega) HST3.out
                    rw [T2.out, F6.out h68] at hc19
                    cases pb
                    · go_wp2_with fail
                      refine hc19.mono ?_
                      rintro e w4 ⟨rfl, hw4⟩
                      have HW := Lib.hid hw4
                      clear hc19 hw4
                      go_wp2
                      go_meet
                      case rel => exact ⟨by first | trivial | rfl, HW.out⟩
                    · go_wp2_with fail
                      refine hc19.mono ?_
                      rintro e w4 ⟨rfl, hw4⟩
                      have HW := Lib.hid hw4
                      clear hc19 hw4
                      go_wp2
                      exact bodyPost_ret (v := .tuple #[]) (by simp [results, Tryd.results67, go_sem]) rfl ⟨rfl, by rw [← HA.out, Sort.pdq_done h12 hl0 (by rw [HR.out]), HR.out]; exact HW.out⟩
                case rest =>
                  obtain ⟨hpb, hst5⟩ := hcut
                  have HPB := Lib.hid hpb; have HST5 := Lib.hid hst5
                  have hdr := hst5.drew
                  clear hpb hst5
                  obtain ⟨xl, hxl⟩ : ∃ x, (decide (a' > 0) && !(ltC cf) e3[a' - 1]! e3[pv]!) = x := ⟨_, rfl⟩
                  rcases Nat.eq_zero_or_pos a' with ha0 | ha0
                  · have H87 := Lib.hid (show (decide (a' > 0) && !(ltC cf) e3[a' - 1]! e3[pv]!) = false by simp [ha0])
                    have hn0 : ¬ (0 < a') := by omega
                    have hn0d : decide (0 < a') = false := decide_eq_false hn0
                    have hn0z : decide ((0 : Int) < (a' : Int)) = false := decide_eq_false (by omega)
                    have HST6 := Lib.hid hdr
                    clear ha0 hdr
                    go_wp2_with fail
                    go_region
                    obtain ⟨mid, ap, d4, hx⟩ : ∃ mid ap d4, Sort.partition (ltC cf) e3 a' b' pv = (mid, ap, d4) := ⟨_, _, _, rfl⟩
                    obtain ⟨r1, r2, r3, r4, r5, r6, r7⟩ := Sort.round_part HO.out (Sort.partition_holds (ltC cf)) hpva hpvb (show b' ≤ e3.size by rw [T3.out]; omega) HB3.out hx
                    rw [T3.out] at r3
                    have hc22 := vpart cf g HC.out cap a' b' pv hpva hpvb (by rw [T3.out]; omega) (by rw [T3.out]; omega) HST6.out
                    rw [T3.out, hx] at hc22
                    have HX := Lib.hid hx; have HD4 := Lib.hid r3; have R4 := Lib.hid r4; have R5 := Lib.hid r5; have R6 := Lib.hid r6; have R7 := Lib.hid r7
                    clear hx r3 r4 r5 r6 r7
                    go_wp2_with fail
                    refine hc22.mono ?_
                    rintro e w7 ⟨rfl, hst7⟩
                    go_upto_if 125 with fail
                    clear hc22
                    by_cases h4 : mid - a' < b' - mid
                    · have h4z : (mid : Int) - (a' : Int) < (b' : Int) - (mid : Int) := by omega
                      have hih := IH.out a' mid lm d4 w7 (by omega) (by omega) (by omega) HD4.out (by omega) R4.out hst7
                      obtain ⟨pL, sL⟩ := Sort.pdq_sorts (ltC cf) HO.out d4 a' mid lm true true (by omega) (by rw [HD4.out]; omega) R4.out
                      have PL := Lib.hid pL; have SL := Lib.hid sL
                      clear hst7 pL sL
                      go_wp2_with fail
                      refine hih.mono ?_
                      rintro e w8 ⟨rfl, hw8⟩
                      have HW8 := Lib.hid hw8
                      clear hih hw8
                      go_wp2
                      go_roundg (b' - (mid + 1))
                      case measure => omega
                      case rel =>
                        refine ⟨mid + 1, b', lm, decide (mid - a' ≥ (b' - a') / 8), ap, Sort.pdq (ltC cf) d4 a' mid lm true true, by go_num, rfl, rfl, ?_, rfl, by omega, by omega, Nat.le_refl _, by omega, by omega, by rw [PL.out.1, HD4.out], (R6.out _ PL.out SL.out).1, HW8.out, ?_⟩
                        · exact congrArg Value.bool (eighthN (by omega) (by omega))
                        · show _ = _
                          rw [← HA.out, Sort.pdq_left h12 hl0 (by rw [HR.out]; exact HPB.out) (by rw [HR.out]; exact H87.out) (by rw [HR.out]; dsimp only; rw [HX.out]; exact ⟨r1, r2⟩) (by rw [HR.out]; dsimp only; rw [HX.out]; exact h4), HR.out]
                          dsimp only
                          rw [HX.out]
                    · have h4z : ¬ (mid : Int) - (a' : Int) < (b' : Int) - (mid : Int) := by omega
                      have hih := IH.out (mid + 1) b' lm d4 w7 (by omega) (by omega) (by omega) HD4.out (by omega) R5.out hst7
                      rw [show ((mid + 1 : Nat) : Int) = (mid : Int) + 1 by omega] at hih
                      obtain ⟨pL, sL⟩ := Sort.pdq_sorts (ltC cf) HO.out d4 (mid + 1) b' lm true true (by omega) (by rw [HD4.out]; omega) R5.out
                      have PL := Lib.hid pL; have SL := Lib.hid sL
                      clear hst7 pL sL
                      go_wp2_with fail
                      refine hih.mono ?_
                      rintro e w8 ⟨rfl, hw8⟩
                      have HW8 := Lib.hid hw8
                      clear hih hw8
                      go_wp2
                      go_roundg (mid - a')
                      case measure => omega
                      case rel =>
                        refine ⟨a', mid, lm, decide (b' - mid ≥ (b' - a') / 8), ap, Sort.pdq (ltC cf) d4 (mid + 1) b' lm true true, rfl, rfl, rfl, ?_, rfl, by omega, by omega, Nat.le_refl _, by omega, by omega, by rw [PL.out.1, HD4.out], (R7.out _ PL.out SL.out).1, HW8.out, ?_⟩
                        · exact congrArg Value.bool (eighthN (by omega) (by omega))
                        · show _ = _
                          rw [← HA.out, Sort.pdq_right h12 hl0 (by rw [HR.out]; exact HPB.out) (by rw [HR.out]; exact H87.out) (by rw [HR.out]; dsimp only; rw [HX.out]; exact ⟨r1, r2⟩) (by rw [HR.out]; dsimp only; rw [HX.out]; exact h4), HR.out]
                          dsimp only
                          rw [HX.out]
                  · obtain ⟨am, rfl⟩ : ∃ x, a' = x + 1 := ⟨a' - 1, by omega⟩
                    have ha0z : (0 : Int) < (am : Int) + 1 := by omega
                    have wam := wrapN (n := am) (by omega)
                    obtain ⟨x, hx⟩ : ∃ x, enc e3[am]! = x := ⟨_, rfl⟩
                    obtain ⟨y, hy⟩ : ∃ x, enc e3[pv]! = x := ⟨_, rfl⟩
                    obtain ⟨cv, hcv⟩ : ∃ x, cf e3[am]! e3[pv]! = x := ⟨_, rfl⟩
                    have bi : (am : Int) < (N : Int) := by omega
                    have bj : (pv : Int) < (N : Int) := by omega
                    have c1 : ∀ zp : InS (StR enc B w0 blk e3), zp.W.cell? ⟨blk, am, none⟩ = some (.string x) := fun zp => (zp.ok.cells T3.out (by omega) hx).1
                    have c2 : ∀ zp : InS (StR enc B w0 blk e3), zp.W.cell? ⟨blk, pv, none⟩ = some (.string y) := fun zp => (zp.ok.cells T3.out (by omega) hy).1
                    have hcall : ∀ zp : InS (StR enc B w0 blk e3), Calls Tryd.prog 33 #[wptr g, .string x, .string y] zp.W fun e W' => e = .returned (.int .i64 cv) ∧ ∃ zq : InS (StR enc B w0 blk e3), W' = zq.W := fun zp => by
                      have := HC.out.in_ zp e3[am]! e3[pv]!
                      rw [hx, hy, hcv] at this
                      exact this
                    have Hcv := Lib.hid hcv
                    clear hx hy hcv
                    by_cases hlv : cv < 0
                    · have H87 := Lib.hid (show (decide (am + 1 > 0) && !(ltC cf) e3[am + 1 - 1]! e3[pv]!) = false by rw [show am + 1 - 1 = am from rfl, ltC_t Hcv.out hlv]; simp)
                      go_wp2_with fail
                      go_in (StR enc B w0 blk e3) (exact hcall _)
                      try simp only [show decide (cv < 0) = true from decide_eq_true (by omega), Bool.not_true]
                      have HST6 := Lib.hid pq.ok
                      clear c1 c2 hcall hdr
                      obtain ⟨mid, ap, d4, hx⟩ : ∃ mid ap d4, Sort.partition (ltC cf) e3 (am + 1) b' pv = (mid, ap, d4) := ⟨_, _, _, rfl⟩
                      obtain ⟨r1, r2, r3, r4, r5, r6, r7⟩ := Sort.round_part HO.out (Sort.partition_holds (ltC cf)) hpva hpvb (show b' ≤ e3.size by rw [T3.out]; omega) HB3.out hx
                      rw [T3.out] at r3
                      have hc22 := vpart cf g HC.out cap (am + 1) b' pv hpva hpvb (by rw [T3.out]; omega) (by rw [T3.out]; omega) HST6.out
                      rw [T3.out, hx] at hc22
                      have HX := Lib.hid hx; have HD4 := Lib.hid r3; have R4 := Lib.hid r4; have R5 := Lib.hid r5; have R6 := Lib.hid r6; have R7 := Lib.hid r7
                      clear hx r3 r4 r5 r6 r7
                      go_wp2_with fail
                      refine hc22.mono ?_
                      rintro e w7 ⟨rfl, hst7⟩
                      go_upto_if 125 with fail
                      clear hc22
                      by_cases h4 : mid - (am + 1) < b' - mid
                      · have h4z : (mid : Int) - ((am : Int) + 1) < (b' : Int) - (mid : Int) := by omega
                        have hih := IH.out (am + 1) mid lm d4 w7 (by omega) (by omega) (by omega) HD4.out (by omega) R4.out hst7
                        obtain ⟨pL, sL⟩ := Sort.pdq_sorts (ltC cf) HO.out d4 (am + 1) mid lm true true (by omega) (by rw [HD4.out]; omega) R4.out
                        have PL := Lib.hid pL; have SL := Lib.hid sL
                        clear hst7 pL sL
                        go_wp2_with fail
                        refine hih.mono ?_
                        rintro e w8 ⟨rfl, hw8⟩
                        have HW8 := Lib.hid hw8
                        clear hih hw8
                        go_wp2
                        go_roundg (b' - (mid + 1))
                        case measure => omega
                        case rel =>
                          refine ⟨mid + 1, b', lm, decide (mid - (am + 1) ≥ (b' - (am + 1)) / 8), ap, Sort.pdq (ltC cf) d4 (am + 1) mid lm true true, by go_num, rfl, rfl, ?_, rfl, by omega, by omega, Nat.le_refl _, by omega, by omega, by rw [PL.out.1, HD4.out], (R6.out _ PL.out SL.out).1, HW8.out, ?_⟩
                          · exact congrArg Value.bool (eighthN (by omega) (by omega))
                          · show _ = _
                            rw [← HA.out, Sort.pdq_left h12 hl0 (by rw [HR.out]; exact HPB.out) (by rw [HR.out]; exact H87.out) (by rw [HR.out]; dsimp only; rw [HX.out]; exact ⟨r1, r2⟩) (by rw [HR.out]; dsimp only; rw [HX.out]; exact h4), HR.out]
                            dsimp only
                            rw [HX.out]
                      · have h4z : ¬ (mid : Int) - ((am : Int) + 1) < (b' : Int) - (mid : Int) := by omega
                        have hih := IH.out (mid + 1) b' lm d4 w7 (by omega) (by omega) (by omega) HD4.out (by omega) R5.out hst7
                        rw [show ((mid + 1 : Nat) : Int) = (mid : Int) + 1 by omega] at hih
                        obtain ⟨pL, sL⟩ := Sort.pdq_sorts (ltC cf) HO.out d4 (mid + 1) b' lm true true (by omega) (by rw [HD4.out]; omega) R5.out
                        have PL := Lib.hid pL; have SL := Lib.hid sL
                        clear hst7 pL sL
                        go_wp2_with fail
                        refine hih.mono ?_
                        rintro e w8 ⟨rfl, hw8⟩
                        have HW8 := Lib.hid hw8
                        clear hih hw8
                        go_wp2
                        go_roundg (mid - (am + 1))
                        case measure => omega
                        case rel =>
                          refine ⟨(am + 1), mid, lm, decide (b' - mid ≥ (b' - (am + 1)) / 8), ap, Sort.pdq (ltC cf) d4 (mid + 1) b' lm true true, rfl, rfl, rfl, ?_, rfl, by omega, by omega, Nat.le_refl _, by omega, by omega, by rw [PL.out.1, HD4.out], (R7.out _ PL.out SL.out).1, HW8.out, ?_⟩
                          · exact congrArg Value.bool (eighthN (by omega) (by omega))
                          · show _ = _
                            rw [← HA.out, Sort.pdq_right h12 hl0 (by rw [HR.out]; exact HPB.out) (by rw [HR.out]; exact H87.out) (by rw [HR.out]; dsimp only; rw [HX.out]; exact ⟨r1, r2⟩) (by rw [HR.out]; dsimp only; rw [HX.out]; exact h4), HR.out]
                            dsimp only
                            rw [HX.out]
                    · have H87 := Lib.hid (show (decide (am + 1 > 0) && !(ltC cf) e3[am + 1 - 1]! e3[pv]!) = true by rw [show am + 1 - 1 = am from rfl, ltC_f Hcv.out hlv]; simp)
                      have hnl := ltC_f Hcv.out hlv
                      go_wp2_with fail
                      go_in (StR enc B w0 blk e3) (exact hcall _)
                      try simp only [show decide (cv < 0) = false from decide_eq_false (by omega), Bool.not_false]
                      have HST6 := Lib.hid pq.ok
                      clear c1 c2 hcall hdr
                      obtain ⟨mid, d4, hx⟩ : ∃ mid d4, Sort.partitionEqual (ltC cf) e3 (am + 1) b' pv = (mid, d4) := ⟨_, _, rfl⟩
                      obtain ⟨r1, r2, r3, r4, _⟩ := Sort.round_eq HO.out (Sort.partitionEqual_holds (ltC cf)) (Nat.succ_pos am) hpva hpvb (show b' ≤ e3.size by rw [T3.out]; omega) HB3.out hnl hx
                      rw [T3.out] at r3
                      have hc21 := vparteq cf g HC.out cap (am + 1) b' pv hpva hpvb (by rw [T3.out]; omega) (by rw [T3.out]; omega) HST6.out
                      rw [T3.out, hx] at hc21
                      rw [show ((am + 1 : Nat) : Int) = (am : Int) + 1 by omega] at hc21
                      have HX := Lib.hid hx; have HD4 := Lib.hid r3; have R4 := Lib.hid r4
                      clear hx r3 r4 hnl
                      go_wp2_with fail
                      refine hc21.mono ?_
                      rintro e w7 ⟨rfl, hw7⟩
                      have HW7 := Lib.hid hw7
                      clear hc21 hw7
                      go_wp2
                      go_roundg (b' - mid)
                      case measure => omega
                      case rel =>
                        refine ⟨mid, b', lm, wb, wp, d4, rfl, rfl, rfl, rfl, rfl, r2, hb', Nat.le_refl _, by omega, by omega, HD4.out, R4.out, HW7.out, ?_⟩
                        show _ = _
                        rw [← HA.out, Sort.pdq_eq h12 hl0 (by rw [HR.out]; exact HPB.out) (by rw [HR.out]; exact H87.out) (by rw [HR.out]; dsimp only; rw [HX.out]; exact ⟨r1, r2⟩), HR.out]
                        dsimp only
                        rw [HX.out]
end
end Go.Proofs.YtgkpoopiamicnaaDoor
