/-
  PointsMiddle: the walk, out of New's contract. Conditions: names of at most maxLen bytes.
-/
import Derived.Test.YtdelkgfodeilkaaDoorPtC
import Derived.Test.YtdelkgfodeilkaaDoorPtU
import Derived.Test.YtdelkgfodeilkaaDoorPick
import Derived.Test.YtdelkgfodeilkaaDoorPtGv
import Derived.Deep.QuietTactic
import Derived.BigQuiet
namespace Go.Proofs.YtdelkgfodeilkaaDoor
open Go.RowKit Go.Lib


set_option linter.unusedSimpArgs false in
set_option maxRecDepth 40000 in
set_option maxHeartbeats 8000000 in
theorem middle_law (hnew : NewAny) (hwk : WorksAny) (A B : Option Addr) (n c m k : Nat) (names : List ByteArray) (roads : List Rd) (w : World) (hN : ReadS w w.heap.size A n names) (hR : Reads w w.heap.size 3 B m (roads.flatMap roadV)) (hs : ∀ s ∈ names, s.size ≤ maxLen) :
    Calls Tryd.prog 11 #[.agg #[.slice A n c, .slice B m k]] w fun e w' => e = .returned (.bool true) ∧ Below w.heap.size w w' := by
  have hnl := hN.len
  have hb0 : Below w.heap.size w (w.alloc (.cells #[.slice A n c, .slice B m k] 25)) := (Below.refl _ w).alloc (by first | exact Nat.le_refl _ | (simp only [World.size_alloc]; omega)) _
  have hc1 := Blk.new w 25 #[.slice A n c, .slice B m k]
  have hn := hnew A B n c m k names roads _ ((Reads.below hN hb0).more hb0.size) ((hR.below hb0).more hb0.size) hs
  have HR0 := Lib.hid hR; have HN0 := Lib.hid hN; have HS0 := Lib.hid hs
  have HB0 := Lib.hid hb0; have HWK := Lib.hid hwk; have HNL := Lib.hid hnl; have HNEW := Lib.hid hnew
  have HC1 := Lib.hid hc1
  clear hb0 hc1 hN hR hs hwk hnl hnew
  go_enter Tryd.func11, Tryd.ntmps11
  go_wp2_with fail
  refine hn.mono ?_
  rintro e w1 ⟨hbad, hgood, hb1⟩
  have hB1 := HB0.out.trans (hb1.mono HB0.out.size)
  have k1 := HC1.out.below hb1 HC1.out.lt
  have hf := few_any A B n c m k w1
  have c10 := k1.cell 0; have c11 := k1.cell 1
  simp only [List.getElem?_toArray, List.getElem?_cons_zero, List.getElem?_cons_succ] at c10 c11
  have HK1 := Lib.hid k1; have HB1 := Lib.hid hB1
  clear hn hb1 k1 hB1 HB0 HC1
  generalize fewB n m = fw at hf
  by_cases hE : newE names roads = 0
  · obtain ⟨g, rfl, hM⟩ := hgood hE
    have hG := good_new hE
    have HE := Lib.hid hE
    generalize hMM : newM names roads = M at hM hG
    have hO : MapO w1 (some ⟨g, 0, none⟩) (some M) := ⟨g, rfl, hM⟩
    have hl := lenP_any _ _ w1 hO
    rw [show lenO (some M) = M.n from rfl] at hl
    have HO := Lib.hid hO; have HG := Lib.hid hG; have HMM := Lib.hid hMM
    have HGO := Lib.hid (show GoodO (some M) from fun M' e => by injection e with e; exact e ▸ hG)
    have hfew : M.n ≤ 128 := hG.few
    clear hbad hgood hM hO hG hE hMM
    cases fw
    · go_wp2_with fail
      refine hf.mono ?_
      rintro e w' ⟨rfl, rfl⟩
      go_wp2_with fail
      refine (HWK.out _).mono ?_
      rintro e w2 ⟨rfl, hb2⟩
      go_wp2
      go_ret
      exact ⟨rfl, HB1.out.trans (hb2.mono HB1.out.size)⟩
    · go_wp2_with fail
      refine hf.mono ?_
      rintro e w' ⟨rfl, rfl⟩
      have hmk := fun W => run_make_row' (P := Tryd.prog) 63 2 (.int .i64 0) 8 Tryd.underlying63 (by kernel_rfl) rfl .i64 .i64 M.n (by omega) (by omega) W
      obtain ⟨a, ok, e1, f1, f2, f3⟩ := middle_facts HG.out
      have q1 := middleP_any _ _ w1 HO.out HGO.out
      rw [e1] at q1
      have HF1 := Lib.hid f1; have HF2 := Lib.hid f2; have HF3 := Lib.hid f3; have HMK := Lib.hid hmk
      clear f1 f2 f3 e1 hl hmk
      go_wp2_with fail
      refine q1.mono ?_
      rintro e w2 ⟨rfl, hb2⟩
      have q2 := labelsP_any _ _ w2 (HO.out.below hb2) HGO.out
      have HB2 := Lib.hid hb2
      clear q1 hb2
      go_wp2_with fail
      refine q2.mono ?_
      rintro e w3 ⟨v3, rfl, ho3, hb3⟩
      have hll : (labO (some M)).length = M.n := labelsS_len M
      obtain ⟨A3, c3, rfl, _, _⟩ := ownsRow_form ho3
      have hr3 : ReadI w3 w3.heap.size A3 (labO (some M)).length (labO (some M)) := Reads.of_own ho3
      rw [hll] at hr3 ⊢
      have hlab : ∀ j (hj : j < (labO (some M)).length), (labO (some M))[j] = labK M M.n j := fun j hj => by
        have h1 := labelsS_get (M := M) (a := j) (by rw [← hll]; exact hj)
        exact Option.some.inj ((List.getElem?_eq_getElem hj).symm.trans h1)
      have hB3 := HB2.out.trans (hb3.mono HB2.out.size)
      have hl3 := lenP_any _ _ w3 (HO.out.below hB3)
      rw [show lenO (some M) = M.n from rfl] at hl3
      have HB3 := Lib.hid hB3; have HR3 := Lib.hid hr3; have HLAB := Lib.hid hlab; have HLL := Lib.hid hll; have HL3 := Lib.hid hl3
      clear q2 ho3 hb3 hr3 hlab hll hB3 hl3 HB2
      go_wp2_with fail
      go_loopw [8, 9] (fun b i wr => ∃ j : Nat, j ≤ M.n ∧ i = .int .i64 j ∧ (∃ u : Bool, b = .bool u ∧ (u = true ↔ allB M j)) ∧ w3 = wr) (fun _ i _ => M.n - (intOf i).toNat)
      case atStart =>
        exact ⟨0, by omega, rfl, ⟨_, rfl, by simp [allB]⟩, rfl⟩
      case round =>
        obtain ⟨j, hj, rfl, ⟨u, rfl, hu⟩, rfl⟩ := hrel
        have HU := Lib.hid hu
        clear hu
        by_cases hlt : j < M.n
        · have hjI : (j : Int) < (M.n : Int) := by omega
          have hjl : j < (labO (some M)).length := by rw [HLL.out]; exact hlt
          obtain ⟨ad, rfl, had, hcx⟩ := ReadI.at_ (k := j) HR3.out hjl
          rw [HLAB.out j hjl] at hcx
          obtain ⟨v, hv⟩ : ∃ v, labK M M.n j = v := ⟨_, rfl⟩
          rw [hv] at hcx
          have HV := Lib.hid hv
          clear hv had
          cases u
          · go_wp2
            go_roundw
            case rel =>
              refine ⟨j + 1, by omega, by go_num, ⟨false, rfl, ?_⟩, trivial⟩
              refine ⟨fun h => (by cases h), fun h => absurd (HU.out.2 ⟨h.1, fun i hi => h.2 i (by omega)⟩) (by decide)⟩
            case measure => simp [intOf]; omega
          · by_cases hv0 : v = 0
            · subst hv0
              go_wp2
              go_roundw
              case rel =>
                refine ⟨j + 1, by omega, by go_num, ⟨true, rfl, ?_⟩, trivial⟩
                refine ⟨fun _ => ⟨(HU.out.1 rfl).1, fun i hi => ?_⟩, fun _ => rfl⟩
                rcases Nat.lt_or_ge i j with h | h
                · exact (HU.out.1 rfl).2 i h
                · obtain rfl : i = j := by omega
                  exact HV.out
              case measure => simp [intOf]; omega
            · have hv1 : (v == 0) = false := by simp [hv0]
              go_wp2
              go_roundw
              case rel =>
                refine ⟨j + 1, by omega, by go_num, ⟨false, rfl, ?_⟩, trivial⟩
                refine ⟨fun h => (by cases h), fun h => absurd (HV.out.symm.trans (h.2 j (by omega))) hv0⟩
              case measure => simp [intOf]; omega
        · obtain rfl : j = M.n := by omega
          obtain rfl : ok = u := by
            rw [Bool.eq_iff_iff, HF1.out, HU.out]
          have hl3 := HL3.out
          cases ok
          · obtain rfl : a = 0 := HF2.out rfl
            have HB := Lib.hid (HB1.out.trans (HB3.out.mono HB1.out.size))
            go_wp2_with fail
            refine hl3.mono ?_
            rintro e w' ⟨rfl, rfl⟩
            go_wp2_with fail
            refine (HWK.out _).mono ?_
            rintro e w2 ⟨rfl, hb2⟩
            go_wp2
            go_ret
            exact ⟨rfl, HB.out.trans (hb2.mono HB.out.size)⟩
          · obtain ⟨b, rfl, hb, hbest⟩ := HF3.out rfl
            have hn0 : ¬ (b : Int) < 0 := by omega
            have hbI : (b : Int) < (M.n : Int) := by omega
            have hbI2 : ¬ (M.n : Int) ≤ (b : Int) := by omega
            have HBEST := Lib.hid hbest
            have hmk := HMK.out
            clear hbest
            go_wp2_with fail
            refine hl3.mono ?_
            rintro e w' ⟨rfl, rfl⟩
            go_wp2_with fail
            refine hl3.mono ?_
            rintro e w' ⟨rfl, rfl⟩
            go_wp2_with fail
            refine hl3.mono ?_
            rintro e w' ⟨rfl, rfl⟩
            go_wp2_with fail
            have hB0 : Below w1.heap.size w1 w3 := HB3.out
            have hst := CntM.start 2 w3 M.n
            rw [← farF_start M] at hst
            have HST := Lib.hid hst
            clear hst hl3 hmk
            have HBW := Lib.hid (HB1.out.trans (HB3.out.mono HB1.out.size))
            go_loopw [11] (fun i wr => ∃ x : Nat, x ≤ M.n ∧ i = .int .i64 x ∧ CntM 2 w3 wr w3.heap.size M.n (farF M x 0)) (fun i _ => M.n - (intOf i).toNat)
            case atStart => exact ⟨0, by omega, rfl, HST.out⟩
            case round =>
              obtain ⟨x, hx, rfl, hC⟩ := hrel
              have HC := Lib.hid hC
              clear hC HST
              by_cases hlt2 : x < M.n
              · have hxI : (x : Int) < (M.n : Int) := by omega
                go_wp2
                go_loopw [12] (fun i wr => ∃ y : Nat, y ≤ M.n ∧ i = .int .i64 y ∧ CntM 2 w3 wr w3.heap.size M.n (farF M x y)) (fun i _ => M.n - (intOf i).toNat)
                case atStart => exact ⟨0, by omega, rfl, HC.out⟩
                case round =>
                  obtain ⟨y, hy, rfl, hC⟩ := hrel
                  have HC2 := Lib.hid hC
                  clear hC
                  by_cases hlt3 : y < M.n
                  · have hyI : (y : Int) < (M.n : Int) := by omega
                    have qd := distP_any _ _ x y wr (HO.out.below (HB3.out.trans (HC2.out.below.mono HB3.out.size))) HGO.out
                    rw [distO_in hlt2 hlt3] at qd
                    go_wp2_with fail
                    refine qd.mono ?_
                    rintro e w5 ⟨rfl, hb5⟩
                    have hC5 := HC2.out.later hb5
                    have hfb := farK_bound HG.out hlt2 y
                    have hdb := HG.out.bound (v := y) hlt2
                    have hz0 := hC5.row.frozen x
                    have x0 := hC5.cell hlt2
                    rw [farF_here] at x0
                    have hst := hC5.set_ hlt2 (max (farK M x y) (max (distM M x y) 0))
                    rw [farF_step] at hst
                    have HST := Lib.hid hst
                    generalize farK M x y = fk at *
                    generalize distM M x y = dm at *
                    clear hst hC5 hb5 qd
                    go_wp2
                    go_roundw
                    case rel => exact ⟨y + 1, by omega, by go_num, HST.out⟩
                    case measure => simp [intOf]; omega
                  · obtain rfl : y = M.n := by omega
                    have hn := HC2.out
                    rw [farF_next] at hn
                    have HN := Lib.hid hn
                    clear hn
                    go_wp2
                    go_roundw
                    case rel => exact ⟨x + 1, by omega, by go_num, HN.out⟩
                    case measure => simp [intOf]; omega
              · obtain rfl : x = M.n := by omega
                go_wp2
                go_loopw [15] (fun i wr => ∃ y : Nat, y ≤ M.n ∧ i = .int .i64 y ∧ CntM 2 w3 wr w3.heap.size M.n (farF M M.n 0)) (fun i _ => M.n - (intOf i).toNat)
                case atStart => exact ⟨0, by omega, rfl, HC.out⟩
                case round =>
                  obtain ⟨y, hy, rfl, hC⟩ := hrel
                  have HC2 := Lib.hid hC
                  clear hC
                  by_cases hlt3 : y < M.n
                  · have hyI : (y : Int) < (M.n : Int) := by omega
                    have x0 := HC2.out.cell hlt3
                    have x1 := HC2.out.cell hb
                    rw [farF_end hlt3] at x0
                    rw [farF_end hb] at x1
                    obtain ⟨b1, b2⟩ := HBEST.out y hlt3
                    have hc1 : decide (farK M y M.n < farK M b M.n) = false := decide_eq_false (by omega)
                    generalize farK M y M.n = fy at x0 b1 b2 hc1
                    generalize farK M b M.n = fb at x1 b1 b2 hc1
                    by_cases hyb : y < b
                    · have hybI : (y : Int) < (b : Int) := by omega
                      have hc2 : ¬ fy = fb := b2 hyb
                      clear b1 b2
                      go_wp2_with fail
                      go_quiet (fail)
                      go_wp2
                      go_roundw
                      case rel => exact ⟨y + 1, by omega, by go_num, HC2.out.later (below_drewN _ _ _)⟩
                      case measure => simp [intOf]; omega
                    · have hybI : ¬ (y : Int) < (b : Int) := by omega
                      clear b1 b2
                      go_wp2_with fail
                      go_quiet (fail)
                      go_wp2
                      go_roundw
                      case rel => exact ⟨y + 1, by omega, by go_num, HC2.out.later (below_drewN _ _ _)⟩
                      case measure => simp [intOf]; omega
                  · obtain rfl : y = M.n := by omega
                    have HBE := Lib.hid (HBW.out.trans (HC2.out.below.mono HBW.out.size))
                    go_wp2_with fail
                    refine (HWK.out _).mono ?_
                    rintro e w2 ⟨rfl, hb2⟩
                    go_wp2
                    go_ret
                    exact ⟨rfl, HBE.out.trans (hb2.mono HBE.out.size)⟩
  · obtain rfl := hbad hE
    have hEI : ¬ (newE names roads = 0) := hE
    generalize newE names roads = E at hEI
    clear hbad hgood hE
    cases fw
    · go_wp2_with fail
      refine hf.mono ?_
      rintro e w' ⟨rfl, rfl⟩
      go_wp2_with fail
      refine (HWK.out _).mono ?_
      rintro e w2 ⟨rfl, hb2⟩
      go_wp2
      go_ret
      exact ⟨rfl, HB1.out.trans (hb2.mono HB1.out.size)⟩
    · go_wp2_with fail
      refine hf.mono ?_
      rintro e w' ⟨rfl, rfl⟩
      go_wp2_with fail
      refine (HWK.out _).mono ?_
      rintro e w2 ⟨rfl, hb2⟩
      go_wp2
      go_ret
      exact ⟨rfl, HB1.out.trans (hb2.mono HB1.out.size)⟩
end Go.Proofs.YtdelkgfodeilkaaDoor

