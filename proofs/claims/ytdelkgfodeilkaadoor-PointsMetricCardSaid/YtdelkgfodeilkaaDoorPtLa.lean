/-
  PointsMetric: the walk, out of New's contract. Conditions: names of at most maxLen bytes.
-/
import Derived.Test.YtdelkgfodeilkaaDoorPtC
import Derived.Test.YtdelkgfodeilkaaDoorPtL
import Derived.Test.YtdelkgfodeilkaaDoorPick
namespace Go.Proofs.YtdelkgfodeilkaaDoor
open Go.RowKit Go.Lib

theorem metric_facts {M : Pts} (hM : GoodM M) {a b c : Nat} (ha : a < M.n) (hb : b < M.n) (hc : c < M.n) : ∃ (p : Int) (ok : Bool) (f : Int) (fk : Bool) (g : Int) (gk : Bool),
    distO (some M) a b = (p, ok) ∧ distO (some M) b a = (p, ok) ∧ distO (some M) a a = (0, true) ∧ distO (some M) a c = (f, fk) ∧ distO (some M) c b = (g, gk) ∧ (ok = false → p = 0) ∧ (ok = true → a ≠ b → 1 ≤ p) ∧
    (labK M M.n a == labK M M.n b) = ok ∧ (fk = true → gk = true → ok = true ∧ p ≤ f + g) ∧ 0 ≤ f ∧ f ≤ 137438953472 ∧ 0 ≤ g ∧ g ≤ 137438953472 := by
  have l1 := hM.low a b
  have b1 := hM.bound (v := c) ha
  have b2 := hM.bound (v := b) hc
  refine ⟨_, _, _, _, _, _, distO_in ha hb, ?_, ?_, distO_in ha hc, distO_in hc hb, fun h => ?_, fun h hne => ?_, ?_, fun h1 h2 => ?_, by omega, by omega, by omega, by omega⟩
  · rw [distO_in hb ha, hM.symm b a]
  · rw [distO_in ha ha, hM.self]; rfl
  · rw [decide_eq_false_iff_not] at h; omega
  · have := hM.pos hne (of_decide_eq_true h); omega
  · rw [Bool.eq_iff_iff, beq_iff_eq, decide_eq_true_iff]
    exact lab_eq hM ha hb
  · have h3 := of_decide_eq_true h1
    have h4 := of_decide_eq_true h2
    obtain ⟨h5, h6⟩ := hM.tri h3 h4
    exact ⟨decide_eq_true h5, by omega⟩
theorem labels_cell {w : World} {base q c : Nat} {M : Pts} (h : w.ownsRow base 3 1 (.slice (some ⟨q, 0, none⟩) (labO (some M)).length c) (labO (some M)).length ((labO (some M)).map (Value.int .i64))) {a : Nat} (ha : a < M.n) :
    w.cell? ⟨q, a, none⟩ = some (.int .i64 (labK M M.n a)) := by
  have hl : (labO (some M)).length = M.n := labelsS_len M
  rw [h.cellAt a (by omega), List.getElem?_map, show (labO (some M))[a]? = (labelsS M)[a]? from rfl, labelsS_get ha]; rfl
set_option maxRecDepth 40000 in
set_option maxHeartbeats 8000000 in
theorem metric_any (hnew : NewAny) (hwk : WorksAny) (A B : Option Addr) (n c m k : Nat) (names : List ByteArray) (roads : List Rd) (x y z : UInt8) (w : World) (hN : ReadS w w.heap.size A n names) (hR : Reads w w.heap.size 3 B m (roads.flatMap roadV)) (hs : ∀ s ∈ names, s.size ≤ maxLen) :
    Calls Tryd.prog 3 #[.agg #[.slice A n c, .slice B m k], .agg #[.int .u8 x.toNat, .int .u8 y.toNat, .int .u8 z.toNat]] w fun e w' => e = .returned (.bool true) ∧ Below w.heap.size w w' := by
  have hnl := hN.len
  have hb0 : Below w.heap.size w ((w.alloc (.cells #[.slice A n c, .slice B m k] 25)).alloc (.cells #[.int .u8 x.toNat, .int .u8 y.toNat, .int .u8 z.toNat] 26)) := ((Below.refl _ w).alloc (by first | exact Nat.le_refl _ | (simp only [World.size_alloc]; omega)) _).alloc (by first | exact Nat.le_refl _ | (simp only [World.size_alloc]; omega)) _
  have hc1 := (Blk.new w 25 #[.slice A n c, .slice B m k]).alloc (.cells #[.int .u8 x.toNat, .int .u8 y.toNat, .int .u8 z.toNat] 26)
  have hc2 := Blk.new (w.alloc (.cells #[.slice A n c, .slice B m k] 25)) 26 #[.int .u8 x.toNat, .int .u8 y.toNat, .int .u8 z.toNat]
  simp only [World.size_alloc] at hc1 hc2
  have hn := hnew A B n c m k names roads _ ((Reads.below hN hb0).more hb0.size) ((hR.below hb0).more hb0.size) hs
  have HR0 := Lib.hid hR; have HN0 := Lib.hid hN; have HS0 := Lib.hid hs
  have HB0 := Lib.hid hb0; have HWK := Lib.hid hwk; have HNL := Lib.hid hnl; have HNEW := Lib.hid hnew
  have HC1 := Lib.hid hc1; have HC2 := Lib.hid hc2
  clear hb0 hc1 hc2 hN hR hs hwk hnl hnew
  go_enter Tryd.func3, Tryd.ntmps3
  go_wp2_with fail
  refine hn.mono ?_
  rintro e w1 ⟨hbad, hgood, hb1⟩
  have hB1 := HB0.out.trans (hb1.mono HB0.out.size)
  have k1 := HC1.out.below hb1 HC1.out.lt
  have k2 := HC2.out.below hb1 HC2.out.lt
  have hf := few_any A B n c m k w1
  have c10 := k1.cell 0; have c11 := k1.cell 1
  simp only [List.getElem?_toArray, List.getElem?_cons_zero, List.getElem?_cons_succ] at c10 c11
  have HK1 := Lib.hid k1; have HK2 := Lib.hid k2; have HB1 := Lib.hid hB1
  clear hn hb1 k1 k2 hB1 HB0 HC1 HC2
  generalize fewB n m = fw at hf
  by_cases hE : newE names roads = 0
  · obtain ⟨g, rfl, hM⟩ := hgood hE
    have hG := good_new hE
    have HE := Lib.hid hE
    generalize hMM : newM names roads = M at hM hG
    have hO : MapO w1 (some ⟨g, 0, none⟩) (some M) := ⟨g, rfl, hM⟩
    have hl := lenP_any _ _ w1 hO
    rw [show lenO (some M) = M.n from rfl] at hl
    have HO := Lib.hid hO; have HG := Lib.hid hG; have HMM := Lib.hid hMM
    have HGO := Lib.hid (show GoodO (some M) from fun M' e => by injection e with e; exact e ▸ hG)
    have hfew : M.n ≤ 128 := hG.few
    clear hbad hgood hM hO hG hE hMM
    cases fw
    · go_wp2_with fail
      refine hf.mono ?_
      rintro e w' ⟨rfl, rfl⟩
      go_wp2_with fail
      refine (HWK.out _).mono ?_
      rintro e w2 ⟨rfl, hb2⟩
      go_wp2
      go_ret
      exact ⟨rfl, HB1.out.trans (hb2.mono HB1.out.size)⟩
    · go_wp2_with fail
      refine hf.mono ?_
      rintro e w' ⟨rfl, rfl⟩
      go_wp2_with fail
      refine hl.mono ?_
      rintro e w' ⟨rfl, rfl⟩
      by_cases h0 : M.n = 0
      · have h0I : (M.n : Int) = 0 := by omega
        go_wp2_with fail
        refine (HWK.out _).mono ?_
        rintro e w2 ⟨rfl, hb2⟩
        go_wp2
        go_ret
        exact ⟨rfl, HB1.out.trans (hb2.mono HB1.out.size)⟩
      · have h0I : ¬ (M.n : Int) = 0 := by omega
        go_wp2_with fail
        refine hl.mono ?_
        rintro e w' ⟨rfl, rfl⟩
        have c20 := HK2.out.cell 0; have c21 := HK2.out.cell 1; have c22 := HK2.out.cell 2
        simp only [List.getElem?_toArray, List.getElem?_cons_zero, List.getElem?_cons_succ] at c20 c21 c22
        obtain ⟨a, ha, ea⟩ := mod_pick x h0
        obtain ⟨b, hb, eb⟩ := mod_pick y h0
        obtain ⟨c', hc', ec⟩ := mod_pick z h0
        obtain ⟨p, ok, f, fk, g', gk, e1, e2, e3, e4, e5, f1, f2, f3, f4, f5, f6, f7, f8⟩ := metric_facts HG.out ha hb hc'
        have q1 := distP_any _ _ a b w1 HO.out HGO.out
        rw [e1] at q1
        have HF1 := Lib.hid f1; have HF2 := Lib.hid f2; have HF4 := Lib.hid f4
        clear f1 f2 f4 e1
        go_wp2_with fail
        refine q1.mono ?_
        rintro e w2 ⟨rfl, hb2⟩
        have q2 := distP_any _ _ b a w2 (HO.out.below hb2) HGO.out
        rw [e2] at q2
        have HB2 := Lib.hid hb2
        clear q1 hb2 e2
        go_wp2_with fail
        refine q2.mono ?_
        rintro e w3 ⟨rfl, hb3⟩
        have HB3 := Lib.hid (HB2.out.trans (hb3.mono HB2.out.size))
        have q3 := distP_any _ _ a a w3 (HO.out.below HB3.out) HGO.out
        rw [e3] at q3
        clear q2 hb3 e3
        go_wp2_with fail
        refine q3.mono ?_
        rintro e w4 ⟨rfl, hb4⟩
        have HB4 := Lib.hid (HB3.out.trans (hb4.mono HB3.out.size))
        have q4 := distP_any _ _ a c' w4 (HO.out.below HB4.out) HGO.out
        rw [e4] at q4
        clear q3 hb4 e4
        go_wp2_with fail
        refine q4.mono ?_
        rintro e w5 ⟨rfl, hb5⟩
        have HB5 := Lib.hid (HB4.out.trans (hb5.mono HB4.out.size))
        have q5 := distP_any _ _ c' b w5 (HO.out.below HB5.out) HGO.out
        rw [e5] at q5
        clear q4 hb5 e5
        go_wp2_with fail
        refine q5.mono ?_
        rintro e w6 ⟨rfl, hb6⟩
        have HB6 := Lib.hid (HB5.out.trans (hb6.mono HB5.out.size))
        have q6 := labelsP_any _ _ w6 (HO.out.below HB6.out) HGO.out
        clear q5 hb6
        go_wp2_with fail
        refine q6.mono ?_
        rintro e w7 ⟨v7, rfl, ho7, hb7⟩
        have hll : (labO (some M)).length = M.n := labelsS_len M
        obtain ⟨q7, d7, rfl, _, _⟩ := ho7.form (by omega)
        have la := labels_cell ho7 ha
        have lb := labels_cell ho7 hb
        rw [hll]
        have HB7 := Lib.hid (HB1.out.trans ((HB6.out.trans (hb7.mono HB6.out.size)).mono HB1.out.size))
        generalize labK M M.n a = va at la f3
        generalize labK M M.n b = vb at lb f3
        clear q6 hb7 ho7 hll
        have hab : a = b ∨ (¬ a = b ∧ ¬ (a : Int) = (b : Int)) := by omega
        have hp1 : ok = true → ¬ a = b → ¬ p < 1 := fun h1 h2 => by have := HF2.out h1 h2; omega
        have hpf : fk = true → gk = true → p ≤ f + g' := fun h1 h2 => (HF4.out h1 h2).2
        have hok4 : fk = true → gk = true → ok = true := fun h1 h2 => (HF4.out h1 h2).1
        have HP1 := Lib.hid hp1; have HPF := Lib.hid hpf; have HOK4 := Lib.hid hok4
        clear hp1 hpf hok4
        cases ok
        · obtain rfl : p = 0 := HF1.out rfl
          have hfg : (fk && gk) = false := by
            cases fk
            · rfl
            · cases gk
              · rfl
              · have := HOK4.out rfl rfl; cases this
          rcases hab with rfl | ⟨hab, habI⟩
          · exfalso
            have h := la.symm.trans lb
            simp at h
            subst h
            simp at f3
          · skip
            go_wp2_with fail
            go_quiet (fail)
            cases fk
            · cases gk
              · go_wp2_with fail
                refine (HWK.out _).mono ?_
                rintro e w8 ⟨rfl, hb8⟩
                go_wp2
                go_ret
                exact ⟨rfl, (HB7.out.trans (below_drewN _ _ _)).trans (hb8.mono (HB7.out.trans (below_drewN _ _ _)).size)⟩
              · go_wp2_with fail
                refine (HWK.out _).mono ?_
                rintro e w8 ⟨rfl, hb8⟩
                go_wp2
                go_ret
                exact ⟨rfl, (HB7.out.trans (below_drewN _ _ _)).trans (hb8.mono (HB7.out.trans (below_drewN _ _ _)).size)⟩
            · cases gk
              · go_wp2_with fail
                refine (HWK.out _).mono ?_
                rintro e w8 ⟨rfl, hb8⟩
                go_wp2
                go_ret
                exact ⟨rfl, (HB7.out.trans (below_drewN _ _ _)).trans (hb8.mono (HB7.out.trans (below_drewN _ _ _)).size)⟩
              · cases hfg
        · rcases hab with rfl | ⟨hab, habI⟩
          · skip
            go_wp2_with fail
            go_quiet (fail)
            cases fk
            · cases gk
              · go_wp2_with fail
                refine (HWK.out _).mono ?_
                rintro e w8 ⟨rfl, hb8⟩
                go_wp2
                go_ret
                exact ⟨rfl, (HB7.out.trans (below_drewN _ _ _)).trans (hb8.mono (HB7.out.trans (below_drewN _ _ _)).size)⟩
              · go_wp2_with fail
                refine (HWK.out _).mono ?_
                rintro e w8 ⟨rfl, hb8⟩
                go_wp2
                go_ret
                exact ⟨rfl, (HB7.out.trans (below_drewN _ _ _)).trans (hb8.mono (HB7.out.trans (below_drewN _ _ _)).size)⟩
            · cases gk
              · go_wp2_with fail
                refine (HWK.out _).mono ?_
                rintro e w8 ⟨rfl, hb8⟩
                go_wp2
                go_ret
                exact ⟨rfl, (HB7.out.trans (below_drewN _ _ _)).trans (hb8.mono (HB7.out.trans (below_drewN _ _ _)).size)⟩
              · have hle := HPF.out rfl rfl
                go_wp2_with fail
                refine (HWK.out _).mono ?_
                rintro e w8 ⟨rfl, hb8⟩
                go_wp2
                go_ret
                exact ⟨rfl, (HB7.out.trans (below_drewN _ _ _)).trans (hb8.mono (HB7.out.trans (below_drewN _ _ _)).size)⟩
          · have hp1' := HP1.out rfl hab
            go_wp2_with fail
            go_quiet (fail)
            cases fk
            · cases gk
              · go_wp2_with fail
                refine (HWK.out _).mono ?_
                rintro e w8 ⟨rfl, hb8⟩
                go_wp2
                go_ret
                exact ⟨rfl, (HB7.out.trans (below_drewN _ _ _)).trans (hb8.mono (HB7.out.trans (below_drewN _ _ _)).size)⟩
              · go_wp2_with fail
                refine (HWK.out _).mono ?_
                rintro e w8 ⟨rfl, hb8⟩
                go_wp2
                go_ret
                exact ⟨rfl, (HB7.out.trans (below_drewN _ _ _)).trans (hb8.mono (HB7.out.trans (below_drewN _ _ _)).size)⟩
            · cases gk
              · go_wp2_with fail
                refine (HWK.out _).mono ?_
                rintro e w8 ⟨rfl, hb8⟩
                go_wp2
                go_ret
                exact ⟨rfl, (HB7.out.trans (below_drewN _ _ _)).trans (hb8.mono (HB7.out.trans (below_drewN _ _ _)).size)⟩
              · have hle := HPF.out rfl rfl
                go_wp2_with fail
                refine (HWK.out _).mono ?_
                rintro e w8 ⟨rfl, hb8⟩
                go_wp2
                go_ret
                exact ⟨rfl, (HB7.out.trans (below_drewN _ _ _)).trans (hb8.mono (HB7.out.trans (below_drewN _ _ _)).size)⟩
  · obtain rfl := hbad hE
    have hEI : ¬ (newE names roads = 0) := hE
    generalize newE names roads = E at hEI
    clear hbad hgood hE
    cases fw
    · go_wp2_with fail
      refine hf.mono ?_
      rintro e w' ⟨rfl, rfl⟩
      go_wp2_with fail
      refine (HWK.out _).mono ?_
      rintro e w2 ⟨rfl, hb2⟩
      go_wp2
      go_ret
      exact ⟨rfl, HB1.out.trans (hb2.mono HB1.out.size)⟩
    · go_wp2_with fail
      refine hf.mono ?_
      rintro e w' ⟨rfl, rfl⟩
      go_wp2_with fail
      refine (HWK.out _).mono ?_
      rintro e w2 ⟨rfl, hb2⟩
      go_wp2
      go_ret
      exact ⟨rfl, HB1.out.trans (hb2.mono HB1.out.size)⟩
end Go.Proofs.YtdelkgfodeilkaaDoor
