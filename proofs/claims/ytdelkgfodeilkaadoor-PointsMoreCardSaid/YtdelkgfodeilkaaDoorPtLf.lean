/-
  PointsMore: the walk, out of New's contract. Conditions: names of at most maxLen bytes.
-/
import Derived.Test.YtdelkgfodeilkaaDoorPtC
import Derived.Test.YtdelkgfodeilkaaDoorPtRd
import Derived.Test.YtdelkgfodeilkaaDoorPtZ
import Derived.Deep.QuietTactic
import Derived.BigQuiet
import Derived.Deep.RegionHeldLaw
import Derived.Deep.DeepCutAuto
namespace Go.Proofs.YtdelkgfodeilkaaDoor
open Go.RowKit Go.Lib

theorem reads_blk3 {W : World} {q B : Nat} {t : TypeId} {a b c : Value} (h : Blk W q t #[a, b, c]) (hq : q < B) : Reads W B 3 (some ⟨q, 0, none⟩) 1 [a, b, c] :=
  ⟨rfl, fun _ => ⟨_, rfl, hq, fun j u hu => by rw [add_at, h.cell j]; simpa using hu⟩⟩
set_option linter.unusedSimpArgs false in
set_option maxRecDepth 40000 in
set_option maxHeartbeats 8000000 in
theorem more_law (hnew : NewAny) (hwk : WorksAny) (A B : Option Addr) (n c m k : Nat) (names : List ByteArray) (roads : List Rd) (r1 r2 r3 : Int) (x y : UInt8) (w : World) (hN : ReadS w w.heap.size A n names) (hR : Reads w w.heap.size 3 B m (roads.flatMap roadV)) (hs : ∀ s ∈ names, s.size ≤ maxLen) :
    Calls Tryd.prog 5 #[.agg #[.slice A n c, .slice B m k], .agg #[.int .i64 r1, .int .i64 r2, .int .i64 r3], .agg #[.int .u8 x.toNat, .int .u8 y.toNat]] w fun e w' => e = .returned (.bool true) ∧ Below w.heap.size w w' := by
  have hnl := hN.len
  have hb0 : Below w.heap.size w (((w.alloc (.cells #[.slice A n c, .slice B m k] 25)).alloc (.cells #[.int .i64 r1, .int .i64 r2, .int .i64 r3] 43)).alloc (.cells #[.int .u8 x.toNat, .int .u8 y.toNat] 44)) := (((Below.refl _ w).alloc (by first | exact Nat.le_refl _ | (simp only [World.size_alloc]; omega)) _).alloc (by first | exact Nat.le_refl _ | (simp only [World.size_alloc]; omega)) _).alloc (by first | exact Nat.le_refl _ | (simp only [World.size_alloc]; omega)) _
  have hc1 := ((Blk.new w 25 #[.slice A n c, .slice B m k]).alloc (.cells #[.int .i64 r1, .int .i64 r2, .int .i64 r3] 43)).alloc (.cells #[.int .u8 x.toNat, .int .u8 y.toNat] 44)
  have hc2 := (Blk.new (w.alloc (.cells #[.slice A n c, .slice B m k] 25)) 43 #[.int .i64 r1, .int .i64 r2, .int .i64 r3]).alloc (.cells #[.int .u8 x.toNat, .int .u8 y.toNat] 44)
  have hc3 := Blk.new ((w.alloc (.cells #[.slice A n c, .slice B m k] 25)).alloc (.cells #[.int .i64 r1, .int .i64 r2, .int .i64 r3] 43)) 44 #[.int .u8 x.toNat, .int .u8 y.toNat]
  simp only [World.size_alloc] at hc1 hc2 hc3
  have hn := hnew A B n c m k names roads _ ((Reads.below hN hb0).more hb0.size) ((hR.below hb0).more hb0.size) hs
  have HR0 := Lib.hid hR; have HN0 := Lib.hid hN; have HS0 := Lib.hid hs
  have HB0 := Lib.hid hb0; have HWK := Lib.hid hwk; have HNL := Lib.hid hnl; have HNEW := Lib.hid hnew
  have HC1 := Lib.hid hc1; have HC2 := Lib.hid hc2; have HC3 := Lib.hid hc3
  clear hb0 hc1 hc2 hc3 hN hR hs hwk hnl hnew
  go_enter Tryd.func5, Tryd.ntmps5
  go_wp2_with fail
  refine hn.mono ?_
  rintro e w1 ⟨hbad, hgood, hb1⟩
  have hB1 := HB0.out.trans (hb1.mono HB0.out.size)
  have k1 := HC1.out.below hb1 HC1.out.lt
  have k2 := HC2.out.below hb1 HC2.out.lt
  have k3 := HC3.out.below hb1 HC3.out.lt
  have hf := few_any A B n c m k w1
  have c10 := k1.cell 0; have c11 := k1.cell 1
  simp only [List.getElem?_toArray, List.getElem?_cons_zero, List.getElem?_cons_succ] at c10 c11
  have HK1 := Lib.hid k1; have HK2 := Lib.hid k2; have HK3 := Lib.hid k3; have HB1 := Lib.hid hB1
  clear hn hb1 k1 k2 k3 hB1 HB0 HC1 HC2 HC3
  generalize fewB n m = fw at hf
  by_cases hE : newE names roads = 0
  · obtain ⟨g, rfl, hM⟩ := hgood hE
    have hG := good_new hE
    have HE := Lib.hid hE
    obtain ⟨M, hMM⟩ : ∃ M, newM names roads = M := ⟨_, rfl⟩
    rw [hMM] at hM hG
    have hO : MapO w1 (some ⟨g, 0, none⟩) (some M) := ⟨g, rfl, hM⟩
    have hl := lenP_any _ _ w1 hO
    rw [show lenO (some M) = M.n from rfl] at hl
    have HO := Lib.hid hO; have HG := Lib.hid hG; have HMM := Lib.hid hMM
    have HGO := Lib.hid (show GoodO (some M) from fun M' e => by injection e with e; exact e ▸ hG)
    have hfew : M.n ≤ 128 := hG.few
    clear hbad hgood hM hO hG hE hMM
    cases fw
    · go_wp2_with fail
      refine hf.mono ?_
      rintro e w' ⟨rfl, rfl⟩
      go_wp2_with fail
      refine (HWK.out _).mono ?_
      rintro e w2 ⟨rfl, hb2⟩
      go_wp2
      go_ret
      exact ⟨rfl, HB1.out.trans (hb2.mono HB1.out.size)⟩
    · go_wp2_with fail
      refine hf.mono ?_
      rintro e w' ⟨rfl, rfl⟩
      go_wp2_with fail
      refine hl.mono ?_
      rintro e w' ⟨rfl, rfl⟩
      by_cases h0 : M.n = 0
      · have h0I : (M.n : Int) = 0 := by omega
        go_wp2_with fail
        refine (HWK.out _).mono ?_
        rintro e w2 ⟨rfl, hb2⟩
        go_wp2
        go_ret
        exact ⟨rfl, HB1.out.trans (hb2.mono HB1.out.size)⟩
      · have h0I : ¬ (M.n : Int) = 0 := by omega
        have hrl : roads.length = m := by
          have := HR0.out.1
          rw [flatMap_len roadV 3 (fun _ => rfl)] at this; omega
        have hm512 : m ≤ 512 := by have := (newE_zero HE.out).2.1; omega
        have HRL := Lib.hid hrl
        obtain ⟨i2, hi2, hz20, hz21, hz22⟩ := info_parts (show (Tryd.prog.info? 43).map (fun i => (i.zero, i.size, i.bytes)) = some (some (.agg #[.int .i64 0, .int .i64 0, .int .i64 0]), 3, 24) by kernel_rfl)
        have HONE := Lib.hid (show ∀ u ∈ roads.flatMap roadV, u.oneCell' = true from fun u hu => by
          obtain ⟨r, _, hr⟩ := List.mem_flatMap.1 hu
          simp only [roadV, List.mem_cons, List.not_mem_nil, or_false] at hr
          rcases hr with rfl | rfl | rfl <;> rfl)
        have c20 := HK2.out.cell 0; have c21 := HK2.out.cell 1; have c22 := HK2.out.cell 2
        simp only [List.getElem?_toArray, List.getElem?_cons_zero, List.getElem?_cons_succ] at c20 c21 c22
        have HKEEP := Lib.hid (fun W (hW : Below w1.heap.size w1 W) => (⟨(hW.cell HK1.out.lt).trans c10, (hW.cell HK1.out.lt).trans c11, (hW.cell HK2.out.lt).trans c20, (hW.cell HK2.out.lt).trans c21, (hW.cell HK2.out.lt).trans c22⟩ :
          W.cell? ⟨w.heap.size, 0, none⟩ = some (.slice A n c) ∧ W.cell? ⟨w.heap.size, 1, none⟩ = some (.slice B m k) ∧ W.cell? ⟨w.heap.size + 1, 0, none⟩ = some (.int .i64 r1) ∧ W.cell? ⟨w.heap.size + 1, 1, none⟩ = some (.int .i64 r2) ∧ W.cell? ⟨w.heap.size + 1, 2, none⟩ = some (.int .i64 r3)))
        clear hrl hl
        by_cases hE2 : newE names (roads ++ [(r1, r2, r3)]) = 0
        · skip
          go_upto_region 4 with fail
          go_cut [9, 10] (fun p e wx => ∃ g2, p = .pointer (some ⟨g2, 0, none⟩) ∧ e = .int .i64 0 ∧ MapAt wx g2 (newM names (roads ++ [(r1, r2, r3)])) ∧ Below w1.heap.size w1 wx)
          case first =>
            refine wp_region_held_drew (S := (fun w' => w'.cell? ⟨w.heap.size, 0, none⟩ = some (.slice A n c) ∧ w'.cell? ⟨w.heap.size, 1, none⟩ = some (.slice B m k) ∧ w'.cell? ⟨w.heap.size + 1, 0, none⟩ = some (.int .i64 r1) ∧ w'.cell? ⟨w.heap.size + 1, 1, none⟩ = some (.int .i64 r2) ∧ w'.cell? ⟨w.heap.size + 1, 2, none⟩ = some (.int .i64 r3))) (by kernel_rfl) ?_ (fun hHeld => ?_)
            · (try dsimp only)
              exact HKEEP.out _ (Below.refl _ w1).drew
            have hbwd : Below w1.heap.size w1 w1.drew := (Below.refl _ w1).drew
            generalize w1.drew = wd at hbwd hHeld ⊢
            refine wpAnyH_take (i := 0) (v := ?_) rfl (by kernel_rfl) (by kernel_rfl) (by kernel_rfl) (fun _ _ _ h => h) (Or.inl ⟨by rfl, ?_⟩) (by assumption) ?_
            rotate_left
            · intro w hSw
              (try dsimp only at hSw)
              go_simp <;> with_reducible rfl
            try simp only [Act.put, List.getElem_toArray, List.getElem_cons_succ, List.getElem_cons_zero, List.setIfInBounds_toArray, List.set_cons_zero, List.set_cons_succ]
            refine wpAnyH_take (i := 1) (v := ?_) rfl (by kernel_rfl) (by kernel_rfl) (by kernel_rfl) (fun _ _ _ h => h) (Or.inl ⟨by rfl, ?_⟩) (by assumption) ?_
            rotate_left
            · intro w hSw
              (try dsimp only at hSw)
              go_simp <;> with_reducible rfl
            try simp only [Act.put, List.getElem_toArray, List.getElem_cons_succ, List.getElem_cons_zero, List.setIfInBounds_toArray, List.set_cons_zero, List.set_cons_succ]
            refine wpAnyH_take (i := 3) (v := ?_) rfl (by kernel_rfl) (by kernel_rfl) (by kernel_rfl) (fun _ _ _ h => h) (Or.inl ⟨by rfl, ?_⟩) (by assumption) ?_
            rotate_left
            · intro w hSw
              (try dsimp only at hSw)
              go_simp <;> with_reducible rfl
            try simp only [Act.put, List.getElem_toArray, List.getElem_cons_succ, List.getElem_cons_zero, List.setIfInBounds_toArray, List.set_cons_zero, List.set_cons_succ]
            refine wpAnyH_take (i := 4) (v := ?_) rfl (by kernel_rfl) (by kernel_rfl) (by kernel_rfl) (fun _ _ _ h => h) (Or.inl ⟨by rfl, ?_⟩) (by assumption) ?_
            rotate_left
            · intro w hSw
              (try dsimp only at hSw)
              go_simp <;> with_reducible rfl
            try simp only [Act.put, List.getElem_toArray, List.getElem_cons_succ, List.getElem_cons_zero, List.setIfInBounds_toArray, List.set_cons_zero, List.set_cons_succ]
            refine wpAnyH_take (i := 6) (v := ?_) rfl (by kernel_rfl) (by kernel_rfl) (by kernel_rfl) (fun _ _ _ h => h) (Or.inl ⟨by rfl, ?_⟩) (by assumption) ?_
            rotate_left
            · intro w hSw
              (try dsimp only at hSw)
              go_simp <;> with_reducible rfl
            try simp only [Act.put, List.getElem_toArray, List.getElem_cons_succ, List.getElem_cons_zero, List.setIfInBounds_toArray, List.set_cons_zero, List.set_cons_succ]
            refine wpAnyH_ready (rs := [2, 7]) (by kernel_rfl) (by simp) ?_
            refine AllReadyH.cons rfl (fun K hK => ?_) (AllReadyH.cons rfl (fun K hK => ?_) AllReadyH.nil)
            · skip
              go_simp
              have hbva : Below w1.heap.size w1 (wd.alloc (.cells #[] 43)) := hbwd.alloc hbwd.size _
              have ho := own_mono (own_empty3 wd 43) hbwd.size
              have hsva : (wd.alloc (.cells #[] 43)).heap.size = wd.heap.size + 1 := by simp
              refine hK.out _ _ ?_ (fun hHeld' => ?_)
              · (try dsimp only)
                exact HKEEP.out _ hbva
              clear hK K hHeld
              have hHeld := hHeld'
              clear hHeld'
              have hq2 : wd.heap.size < (wd.alloc (.cells #[] 43)).heap.size := by rw [hsva]; omega
              generalize wd.alloc (.cells #[] 43) = va at hbva ho hsva hHeld hq2 ⊢
              refine wpAnyH_ready (rs := [5, 7]) (by kernel_rfl) (by simp) ?_
              refine AllReadyH.cons rfl (fun K hK => ?_) (AllReadyH.cons rfl (fun K hK => ?_) AllReadyH.nil)
              · skip
                refine step_append_any _ rfl (.tmp 48) (.tmp 50) 23 rfl w1.heap.size 43 i2 (.agg #[.int .i64 0, .int .i64 0, .int .i64 0]) 3 24 Tryd.underlying23 hi2 hz20 hz21 hz22 rfl (by decide) (.slice (some ⟨wd.heap.size, 0, none⟩) 0 0) 0 [] (by simp [Act.eval, Act.put]) ho w.heap.size B m k (roads.flatMap roadV) (by simp [Act.eval, Act.put]) (HR0.out.below (HB1.out.trans (hbva.mono HB1.out.size))) HONE.out (by unfold maxLen; omega) (by omega) hbva.size ?_
                intro v5 w5 ho5 hg5 _
                have hbw5 : Below w1.heap.size w1 w5 := hbva.grown hg5 hbva.size (fun g hg => (ho.lt g hg).1)
                rw [Nat.zero_add, List.nil_append] at ho5
                obtain ⟨A5, c5, rfl, _, _⟩ := ownsRow_form ho5
                refine hK.out _ _ ?_ (fun hHeld' => ?_)
                · (try dsimp only)
                  exact HKEEP.out _ hbw5
                clear hK K hHeld
                have hHeld := hHeld'
                clear hHeld'
                clear hg5 ho
                refine wpAnyH_ready (rs := [7]) (by kernel_rfl) (by simp) ?_
                refine AllReadyH.cons rfl (fun K hK => ?_) AllReadyH.nil
                go_simp
                have hbvb : Below w1.heap.size w1 (w5.alloc (.cells #[.int .i64 r1, .int .i64 r2, .int .i64 r3] 43)) := hbw5.alloc hbw5.size _
                have hx := Blk.new w5 43 #[.int .i64 r1, .int .i64 r2, .int .i64 r3]
                have hsvb : (w5.alloc (.cells #[.int .i64 r1, .int .i64 r2, .int .i64 r3] 43)).heap.size = w5.heap.size + 1 := by simp
                have ho5 := own_al ho5 (.cells #[.int .i64 r1, .int .i64 r2, .int .i64 r3] 43)
                refine hK.out _ _ ?_ (fun hHeld' => ?_)
                · (try dsimp only)
                  exact HKEEP.out _ hbvb
                clear hK K hHeld
                have hHeld := hHeld'
                clear hHeld'
                generalize w5.alloc (.cells #[.int .i64 r1, .int .i64 r2, .int .i64 r3] 43) = vb at hbvb hx hsvb hHeld ho5 ⊢
                refine wpAnyH_ready (rs := [8]) (by kernel_rfl) (by simp) ?_
                refine AllReadyH.cons rfl (fun K hK => ?_) AllReadyH.nil
                refine step_append_any _ rfl (.tmp 51) (.tmp 53) 23 rfl w1.heap.size 43 i2 (.agg #[.int .i64 0, .int .i64 0, .int .i64 0]) 3 24 Tryd.underlying23 hi2 hz20 hz21 hz22 rfl (by decide) (.slice A5 m c5) m (roads.flatMap roadV) (by simp [Act.eval, Act.put]) ho5 (w5.heap.size + 1) (some ⟨w5.heap.size, 0, none⟩) 1 1 [.int .i64 r1, .int .i64 r2, .int .i64 r3] (by simp [Act.eval, Act.put]) (reads_blk3 hx (Nat.lt_succ_self _)) (by simp [Value.oneCell']) (by unfold maxLen; omega) (by omega) hbvb.size ?_
                intro v8 w8 ho8 hg8 _
                have hbw8 : Below w1.heap.size w1 w8 := hbvb.grown hg8 hbvb.size (fun g hg => (ho5.lt g hg).1)
                rw [show roads.flatMap roadV ++ [Value.int .i64 r1, .int .i64 r2, .int .i64 r3] = (roads ++ [(r1, r2, r3)]).flatMap roadV by rw [List.flatMap_append]; rfl] at ho8
                obtain ⟨A8, c8, rfl, _, _⟩ := ownsRow_form ho8
                refine hK.out _ _ ?_ (fun hHeld' => ?_)
                · (try dsimp only)
                  exact HKEEP.out _ hbw8
                clear hK K hHeld
                have hHeld := hHeld'
                clear hHeld'
                clear hg8 ho5 hx
                refine wpAnyH_ready (rs := [9]) (by kernel_rfl) (by simp) ?_
                refine AllReadyH.cons rfl (fun K hK => ?_) AllReadyH.nil
                go_simp
                (try go_wp2_with fail)
                refine (HNEW.out A A8 n c (m + 1) c8 names (roads ++ [(r1, r2, r3)]) w8 ((Reads.below HN0.out (HB1.out.trans (hbw8.mono HB1.out.size))).more (HB1.out.trans (hbw8.mono HB1.out.size)).size) (Reads.of_own ho8) HS0.out).mono ?_
                rintro e w9 ⟨hbad2, hgood2, hb9⟩
                have hbw9 : Below w1.heap.size w1 w9 := hbw8.trans (hb9.mono hbw8.size)
                obtain ⟨g2, rfl, hM2⟩ := hgood2 hE2
                (try go_simp)
                refine hK.out _ _ ?_ (fun hHeld' => ?_)
                · (try dsimp only)
                  exact HKEEP.out _ hbw9
                clear hK K hHeld
                have hHeld := hHeld'
                clear hHeld'
                refine wpAnyH_take (i := 10) (v := ?_) rfl (by kernel_rfl) (by kernel_rfl) (by kernel_rfl) (fun _ _ _ h => h) (Or.inl ⟨by rfl, ?_⟩) (by assumption) ?_
                rotate_left
                · intro w hSw
                  (try dsimp only at hSw)
                  go_simp <;> with_reducible rfl
                try simp only [Act.put, List.getElem_toArray, List.getElem_cons_succ, List.getElem_cons_zero, List.setIfInBounds_toArray, List.set_cons_zero, List.set_cons_succ]
                refine wpAnyH_take (i := 11) (v := ?_) rfl (by kernel_rfl) (by kernel_rfl) (by kernel_rfl) (fun _ _ _ h => h) (Or.inl ⟨by rfl, ?_⟩) (by assumption) ?_
                rotate_left
                · intro w hSw
                  (try dsimp only at hSw)
                  go_simp <;> with_reducible rfl
                try simp only [Act.put, List.getElem_toArray, List.getElem_cons_succ, List.getElem_cons_zero, List.setIfInBounds_toArray, List.set_cons_zero, List.set_cons_succ]
                refine wpAnyH_take (i := 12) (v := ?_) rfl (by kernel_rfl) (by kernel_rfl) (by kernel_rfl) (fun _ _ _ h => h) (Or.inl ⟨by rfl, ?_⟩) (by assumption) ?_
                rotate_left
                · intro w hSw
                  (try dsimp only at hSw)
                  go_simp <;> with_reducible rfl
                try simp only [Act.put, List.getElem_toArray, List.getElem_cons_succ, List.getElem_cons_zero, List.setIfInBounds_toArray, List.set_cons_zero, List.set_cons_succ]
                refine wpAnyH_take (i := 13) (v := ?_) rfl (by kernel_rfl) (by kernel_rfl) (by kernel_rfl) (fun _ _ _ h => h) (Or.inl ⟨by rfl, ?_⟩) (by assumption) ?_
                rotate_left
                · intro w hSw
                  (try dsimp only at hSw)
                  go_simp <;> with_reducible rfl
                try simp only [Act.put, List.getElem_toArray, List.getElem_cons_succ, List.getElem_cons_zero, List.setIfInBounds_toArray, List.set_cons_zero, List.set_cons_succ]
                refine wpAnyH_take (i := 14) (v := ?_) rfl (by kernel_rfl) (by kernel_rfl) (by kernel_rfl) (fun _ _ _ h => h) (Or.inl ⟨by rfl, ?_⟩) (by assumption) ?_
                rotate_left
                · intro w hSw
                  (try dsimp only at hSw)
                  go_simp <;> with_reducible rfl
                try simp only [Act.put, List.getElem_toArray, List.getElem_cons_succ, List.getElem_cons_zero, List.setIfInBounds_toArray, List.set_cons_zero, List.set_cons_succ]
                refine wpAnyH_done (by kernel_rfl) ?_ _
                go_wp2_with fail
                go_meet
                exact ⟨_, rfl, rfl, hM2, hbw9⟩
              · skip
                go_simp
                have hbvb : Below w1.heap.size w1 (va.alloc (.cells #[.int .i64 r1, .int .i64 r2, .int .i64 r3] 43)) := hbva.alloc hbva.size _
                have hx := Blk.new va 43 #[.int .i64 r1, .int .i64 r2, .int .i64 r3]
                have hsvb : (va.alloc (.cells #[.int .i64 r1, .int .i64 r2, .int .i64 r3] 43)).heap.size = va.heap.size + 1 := by simp
                have ho := own_al ho (.cells #[.int .i64 r1, .int .i64 r2, .int .i64 r3] 43)
                refine hK.out _ _ ?_ (fun hHeld' => ?_)
                · (try dsimp only)
                  exact HKEEP.out _ hbvb
                clear hK K hHeld
                have hHeld := hHeld'
                clear hHeld'
                generalize va.alloc (.cells #[.int .i64 r1, .int .i64 r2, .int .i64 r3] 43) = vb at hbvb hx hsvb hHeld ho ⊢
                refine wpAnyH_ready (rs := [5]) (by kernel_rfl) (by simp) ?_
                refine AllReadyH.cons rfl (fun K hK => ?_) AllReadyH.nil
                refine step_append_any _ rfl (.tmp 48) (.tmp 50) 23 rfl w1.heap.size 43 i2 (.agg #[.int .i64 0, .int .i64 0, .int .i64 0]) 3 24 Tryd.underlying23 hi2 hz20 hz21 hz22 rfl (by decide) (.slice (some ⟨wd.heap.size, 0, none⟩) 0 0) 0 [] (by simp [Act.eval, Act.put]) ho w.heap.size B m k (roads.flatMap roadV) (by simp [Act.eval, Act.put]) (HR0.out.below (HB1.out.trans (hbvb.mono HB1.out.size))) HONE.out (by unfold maxLen; omega) (by omega) hbvb.size ?_
                intro v5 w5 ho5 hg5 _
                have hbw5 : Below w1.heap.size w1 w5 := hbvb.grown hg5 hbvb.size (fun g hg => (ho.lt g hg).1)
                have hx := hx.grown hg5 (fun e => by have e' : va.heap.size = wd.heap.size := (by simpa [Value.ownBlock] using e); omega)
                rw [Nat.zero_add, List.nil_append] at ho5
                obtain ⟨A5, c5, rfl, _, _⟩ := ownsRow_form ho5
                refine hK.out _ _ ?_ (fun hHeld' => ?_)
                · (try dsimp only)
                  exact HKEEP.out _ hbw5
                clear hK K hHeld
                have hHeld := hHeld'
                clear hHeld'
                clear hg5 ho
                refine wpAnyH_ready (rs := [8]) (by kernel_rfl) (by simp) ?_
                refine AllReadyH.cons rfl (fun K hK => ?_) AllReadyH.nil
                refine step_append_any _ rfl (.tmp 51) (.tmp 53) 23 rfl w1.heap.size 43 i2 (.agg #[.int .i64 0, .int .i64 0, .int .i64 0]) 3 24 Tryd.underlying23 hi2 hz20 hz21 hz22 rfl (by decide) (.slice A5 m c5) m (roads.flatMap roadV) (by simp [Act.eval, Act.put]) ho5 (va.heap.size + 1) (some ⟨va.heap.size, 0, none⟩) 1 1 [.int .i64 r1, .int .i64 r2, .int .i64 r3] (by simp [Act.eval, Act.put]) (reads_blk3 hx (Nat.lt_succ_self _)) (by simp [Value.oneCell']) (by unfold maxLen; omega) (by omega) hbw5.size ?_
                intro v8 w8 ho8 hg8 _
                have hbw8 : Below w1.heap.size w1 w8 := hbw5.grown hg8 hbw5.size (fun g hg => (ho5.lt g hg).1)
                rw [show roads.flatMap roadV ++ [Value.int .i64 r1, .int .i64 r2, .int .i64 r3] = (roads ++ [(r1, r2, r3)]).flatMap roadV by rw [List.flatMap_append]; rfl] at ho8
                obtain ⟨A8, c8, rfl, _, _⟩ := ownsRow_form ho8
                refine hK.out _ _ ?_ (fun hHeld' => ?_)
                · (try dsimp only)
                  exact HKEEP.out _ hbw8
                clear hK K hHeld
                have hHeld := hHeld'
                clear hHeld'
                clear hg8 ho5 hx
                refine wpAnyH_ready (rs := [9]) (by kernel_rfl) (by simp) ?_
                refine AllReadyH.cons rfl (fun K hK => ?_) AllReadyH.nil
                go_simp
                (try go_wp2_with fail)
                refine (HNEW.out A A8 n c (m + 1) c8 names (roads ++ [(r1, r2, r3)]) w8 ((Reads.below HN0.out (HB1.out.trans (hbw8.mono HB1.out.size))).more (HB1.out.trans (hbw8.mono HB1.out.size)).size) (Reads.of_own ho8) HS0.out).mono ?_
                rintro e w9 ⟨hbad2, hgood2, hb9⟩
                have hbw9 : Below w1.heap.size w1 w9 := hbw8.trans (hb9.mono hbw8.size)
                obtain ⟨g2, rfl, hM2⟩ := hgood2 hE2
                (try go_simp)
                refine hK.out _ _ ?_ (fun hHeld' => ?_)
                · (try dsimp only)
                  exact HKEEP.out _ hbw9
                clear hK K hHeld
                have hHeld := hHeld'
                clear hHeld'
                refine wpAnyH_take (i := 10) (v := ?_) rfl (by kernel_rfl) (by kernel_rfl) (by kernel_rfl) (fun _ _ _ h => h) (Or.inl ⟨by rfl, ?_⟩) (by assumption) ?_
                rotate_left
                · intro w hSw
                  (try dsimp only at hSw)
                  go_simp <;> with_reducible rfl
                try simp only [Act.put, List.getElem_toArray, List.getElem_cons_succ, List.getElem_cons_zero, List.setIfInBounds_toArray, List.set_cons_zero, List.set_cons_succ]
                refine wpAnyH_take (i := 11) (v := ?_) rfl (by kernel_rfl) (by kernel_rfl) (by kernel_rfl) (fun _ _ _ h => h) (Or.inl ⟨by rfl, ?_⟩) (by assumption) ?_
                rotate_left
                · intro w hSw
                  (try dsimp only at hSw)
                  go_simp <;> with_reducible rfl
                try simp only [Act.put, List.getElem_toArray, List.getElem_cons_succ, List.getElem_cons_zero, List.setIfInBounds_toArray, List.set_cons_zero, List.set_cons_succ]
                refine wpAnyH_take (i := 12) (v := ?_) rfl (by kernel_rfl) (by kernel_rfl) (by kernel_rfl) (fun _ _ _ h => h) (Or.inl ⟨by rfl, ?_⟩) (by assumption) ?_
                rotate_left
                · intro w hSw
                  (try dsimp only at hSw)
                  go_simp <;> with_reducible rfl
                try simp only [Act.put, List.getElem_toArray, List.getElem_cons_succ, List.getElem_cons_zero, List.setIfInBounds_toArray, List.set_cons_zero, List.set_cons_succ]
                refine wpAnyH_take (i := 13) (v := ?_) rfl (by kernel_rfl) (by kernel_rfl) (by kernel_rfl) (fun _ _ _ h => h) (Or.inl ⟨by rfl, ?_⟩) (by assumption) ?_
                rotate_left
                · intro w hSw
                  (try dsimp only at hSw)
                  go_simp <;> with_reducible rfl
                try simp only [Act.put, List.getElem_toArray, List.getElem_cons_succ, List.getElem_cons_zero, List.setIfInBounds_toArray, List.set_cons_zero, List.set_cons_succ]
                refine wpAnyH_take (i := 14) (v := ?_) rfl (by kernel_rfl) (by kernel_rfl) (by kernel_rfl) (fun _ _ _ h => h) (Or.inl ⟨by rfl, ?_⟩) (by assumption) ?_
                rotate_left
                · intro w hSw
                  (try dsimp only at hSw)
                  go_simp <;> with_reducible rfl
                try simp only [Act.put, List.getElem_toArray, List.getElem_cons_succ, List.getElem_cons_zero, List.setIfInBounds_toArray, List.set_cons_zero, List.set_cons_succ]
                refine wpAnyH_done (by kernel_rfl) ?_ _
                go_wp2_with fail
                go_meet
                exact ⟨_, rfl, rfl, hM2, hbw9⟩
            · skip
              go_simp
              have hbva : Below w1.heap.size w1 (wd.alloc (.cells #[.int .i64 r1, .int .i64 r2, .int .i64 r3] 43)) := hbwd.alloc hbwd.size _
              have hx := Blk.new wd 43 #[.int .i64 r1, .int .i64 r2, .int .i64 r3]
              have hsva : (wd.alloc (.cells #[.int .i64 r1, .int .i64 r2, .int .i64 r3] 43)).heap.size = wd.heap.size + 1 := by simp
              refine hK.out _ _ ?_ (fun hHeld' => ?_)
              · (try dsimp only)
                exact HKEEP.out _ hbva
              clear hK K hHeld
              have hHeld := hHeld'
              clear hHeld'
              generalize wd.alloc (.cells #[.int .i64 r1, .int .i64 r2, .int .i64 r3] 43) = va at hbva hx hsva hHeld ⊢
              refine wpAnyH_ready (rs := [2]) (by kernel_rfl) (by simp) ?_
              refine AllReadyH.cons rfl (fun K hK => ?_) AllReadyH.nil
              go_simp
              have hbvb : Below w1.heap.size w1 (va.alloc (.cells #[] 43)) := hbva.alloc hbva.size _
              have ho := own_mono (own_empty3 va 43) hbva.size
              have hsvb : (va.alloc (.cells #[] 43)).heap.size = va.heap.size + 1 := by simp
              have hx := hx.alloc (.cells #[] 43)
              refine hK.out _ _ ?_ (fun hHeld' => ?_)
              · (try dsimp only)
                exact HKEEP.out _ hbvb
              clear hK K hHeld
              have hHeld := hHeld'
              clear hHeld'
              have hq2 : va.heap.size < (va.alloc (.cells #[] 43)).heap.size := by rw [hsvb]; omega
              generalize va.alloc (.cells #[] 43) = vb at hbvb ho hsvb hHeld hq2 hx ⊢
              refine wpAnyH_ready (rs := [5]) (by kernel_rfl) (by simp) ?_
              refine AllReadyH.cons rfl (fun K hK => ?_) AllReadyH.nil
              refine step_append_any _ rfl (.tmp 48) (.tmp 50) 23 rfl w1.heap.size 43 i2 (.agg #[.int .i64 0, .int .i64 0, .int .i64 0]) 3 24 Tryd.underlying23 hi2 hz20 hz21 hz22 rfl (by decide) (.slice (some ⟨va.heap.size, 0, none⟩) 0 0) 0 [] (by simp [Act.eval, Act.put]) ho w.heap.size B m k (roads.flatMap roadV) (by simp [Act.eval, Act.put]) (HR0.out.below (HB1.out.trans (hbvb.mono HB1.out.size))) HONE.out (by unfold maxLen; omega) (by omega) hbvb.size ?_
              intro v5 w5 ho5 hg5 _
              have hbw5 : Below w1.heap.size w1 w5 := hbvb.grown hg5 hbvb.size (fun g hg => (ho.lt g hg).1)
              have hx := hx.grown hg5 (fun e => by have e' : wd.heap.size = va.heap.size := (by simpa [Value.ownBlock] using e); omega)
              rw [Nat.zero_add, List.nil_append] at ho5
              obtain ⟨A5, c5, rfl, _, _⟩ := ownsRow_form ho5
              refine hK.out _ _ ?_ (fun hHeld' => ?_)
              · (try dsimp only)
                exact HKEEP.out _ hbw5
              clear hK K hHeld
              have hHeld := hHeld'
              clear hHeld'
              clear hg5 ho
              refine wpAnyH_ready (rs := [8]) (by kernel_rfl) (by simp) ?_
              refine AllReadyH.cons rfl (fun K hK => ?_) AllReadyH.nil
              refine step_append_any _ rfl (.tmp 51) (.tmp 53) 23 rfl w1.heap.size 43 i2 (.agg #[.int .i64 0, .int .i64 0, .int .i64 0]) 3 24 Tryd.underlying23 hi2 hz20 hz21 hz22 rfl (by decide) (.slice A5 m c5) m (roads.flatMap roadV) (by simp [Act.eval, Act.put]) ho5 (wd.heap.size + 1) (some ⟨wd.heap.size, 0, none⟩) 1 1 [.int .i64 r1, .int .i64 r2, .int .i64 r3] (by simp [Act.eval, Act.put]) (reads_blk3 hx (Nat.lt_succ_self _)) (by simp [Value.oneCell']) (by unfold maxLen; omega) (by omega) hbw5.size ?_
              intro v8 w8 ho8 hg8 _
              have hbw8 : Below w1.heap.size w1 w8 := hbw5.grown hg8 hbw5.size (fun g hg => (ho5.lt g hg).1)
              rw [show roads.flatMap roadV ++ [Value.int .i64 r1, .int .i64 r2, .int .i64 r3] = (roads ++ [(r1, r2, r3)]).flatMap roadV by rw [List.flatMap_append]; rfl] at ho8
              obtain ⟨A8, c8, rfl, _, _⟩ := ownsRow_form ho8
              refine hK.out _ _ ?_ (fun hHeld' => ?_)
              · (try dsimp only)
                exact HKEEP.out _ hbw8
              clear hK K hHeld
              have hHeld := hHeld'
              clear hHeld'
              clear hg8 ho5 hx
              refine wpAnyH_ready (rs := [9]) (by kernel_rfl) (by simp) ?_
              refine AllReadyH.cons rfl (fun K hK => ?_) AllReadyH.nil
              go_simp
              (try go_wp2_with fail)
              refine (HNEW.out A A8 n c (m + 1) c8 names (roads ++ [(r1, r2, r3)]) w8 ((Reads.below HN0.out (HB1.out.trans (hbw8.mono HB1.out.size))).more (HB1.out.trans (hbw8.mono HB1.out.size)).size) (Reads.of_own ho8) HS0.out).mono ?_
              rintro e w9 ⟨hbad2, hgood2, hb9⟩
              have hbw9 : Below w1.heap.size w1 w9 := hbw8.trans (hb9.mono hbw8.size)
              obtain ⟨g2, rfl, hM2⟩ := hgood2 hE2
              (try go_simp)
              refine hK.out _ _ ?_ (fun hHeld' => ?_)
              · (try dsimp only)
                exact HKEEP.out _ hbw9
              clear hK K hHeld
              have hHeld := hHeld'
              clear hHeld'
              refine wpAnyH_take (i := 10) (v := ?_) rfl (by kernel_rfl) (by kernel_rfl) (by kernel_rfl) (fun _ _ _ h => h) (Or.inl ⟨by rfl, ?_⟩) (by assumption) ?_
              rotate_left
              · intro w hSw
                (try dsimp only at hSw)
                go_simp <;> with_reducible rfl
              try simp only [Act.put, List.getElem_toArray, List.getElem_cons_succ, List.getElem_cons_zero, List.setIfInBounds_toArray, List.set_cons_zero, List.set_cons_succ]
              refine wpAnyH_take (i := 11) (v := ?_) rfl (by kernel_rfl) (by kernel_rfl) (by kernel_rfl) (fun _ _ _ h => h) (Or.inl ⟨by rfl, ?_⟩) (by assumption) ?_
              rotate_left
              · intro w hSw
                (try dsimp only at hSw)
                go_simp <;> with_reducible rfl
              try simp only [Act.put, List.getElem_toArray, List.getElem_cons_succ, List.getElem_cons_zero, List.setIfInBounds_toArray, List.set_cons_zero, List.set_cons_succ]
              refine wpAnyH_take (i := 12) (v := ?_) rfl (by kernel_rfl) (by kernel_rfl) (by kernel_rfl) (fun _ _ _ h => h) (Or.inl ⟨by rfl, ?_⟩) (by assumption) ?_
              rotate_left
              · intro w hSw
                (try dsimp only at hSw)
                go_simp <;> with_reducible rfl
              try simp only [Act.put, List.getElem_toArray, List.getElem_cons_succ, List.getElem_cons_zero, List.setIfInBounds_toArray, List.set_cons_zero, List.set_cons_succ]
              refine wpAnyH_take (i := 13) (v := ?_) rfl (by kernel_rfl) (by kernel_rfl) (by kernel_rfl) (fun _ _ _ h => h) (Or.inl ⟨by rfl, ?_⟩) (by assumption) ?_
              rotate_left
              · intro w hSw
                (try dsimp only at hSw)
                go_simp <;> with_reducible rfl
              try simp only [Act.put, List.getElem_toArray, List.getElem_cons_succ, List.getElem_cons_zero, List.setIfInBounds_toArray, List.set_cons_zero, List.set_cons_succ]
              refine wpAnyH_take (i := 14) (v := ?_) rfl (by kernel_rfl) (by kernel_rfl) (by kernel_rfl) (fun _ _ _ h => h) (Or.inl ⟨by rfl, ?_⟩) (by assumption) ?_
              rotate_left
              · intro w hSw
                (try dsimp only at hSw)
                go_simp <;> with_reducible rfl
              try simp only [Act.put, List.getElem_toArray, List.getElem_cons_succ, List.getElem_cons_zero, List.setIfInBounds_toArray, List.set_cons_zero, List.set_cons_succ]
              refine wpAnyH_done (by kernel_rfl) ?_ _
              go_wp2_with fail
              go_meet
              exact ⟨_, rfl, rfl, hM2, hbw9⟩
          case rest =>
            obtain ⟨g2, rfl, rfl, hM2, hbx⟩ := hcut
            obtain ⟨M2, hMM2⟩ : ∃ M2, newM names (roads ++ [(r1, r2, r3)]) = M2 := ⟨_, rfl⟩
            obtain ⟨a, ha, ea⟩ := mod_pick x h0
            obtain ⟨b, hb, eb⟩ := mod_pick y h0
            obtain ⟨_, d, ok, c', is_, p, pk, q, qk, e1, e2, e3, e4, f1, f2, p0, p1, q0, q1, l0, l1⟩ := more_facts hE2 HMM.out hMM2 ha hb
            rw [hMM2] at hM2
            simp only at e3 e4 f2 l0 l1
            have HGO2 := Lib.hid (show GoodO (some M2) from fun M' e => by injection e with e; subst e; rw [← hMM2]; exact good_new hE2)
            have hM2O : MapO wc (some ⟨g2, 0, none⟩) (some M2) := ⟨g2, rfl, hM2⟩
            have hl2 : ∀ W, Below w1.heap.size w1 W → Calls Tryd.prog 15 #[.pointer (some ⟨g, 0, none⟩)] W fun e w' => e = .returned (.int .i64 (M.n : Nat)) ∧ w' = W := fun W hW => (lenP_any _ _ W (HO.out.below hW)).mono fun _ _ h => ⟨h.1, h.2.symm⟩
            have c30 := (HK3.out.below hbx HK3.out.lt).cell 0
            simp only [List.getElem?_toArray, List.getElem?_cons_zero] at c30
            have HL2 := Lib.hid hl2; have HO2 := Lib.hid hM2O; have HBX := Lib.hid hbx
            have HF1 := Lib.hid f1; have HF2 := Lib.hid f2; have HE1 := Lib.hid e1; have HE2 := Lib.hid e2; have HE3 := Lib.hid e3; have HE4 := Lib.hid e4
            clear hM2 hMM2 hl2 hM2O hbx f1 f2 e1 e2 e3 e4 c20 c21 c22 c10 c11 hE2 hf hz20 hz21 hz22 hi2
            go_wp2_with fail
            go_quiet ((go_at_call 15; refine Calls.quiet_of_same (HL2.out _ (HBX.out.trans ((below_drewN _ _ _).mono HBX.out.size)))))
            have hq0 : Below wc.heap.size wc (wc.drewN nq) := below_drewN _ _ _
            generalize wc.drewN nq = u1 at hq0 ⊢
            have hq0' : Below w1.heap.size w1 u1 := HBX.out.trans (hq0.mono HBX.out.size)
            have c31 := (HK3.out.below hq0' HK3.out.lt).cell 1
            simp only [List.getElem?_toArray, List.getElem?_cons_zero, List.getElem?_cons_succ] at c31
            go_wp2_with fail
            go_quiet ((go_at_call 15; refine Calls.quiet_of_same (HL2.out _ (hq0'.trans ((below_drewN _ _ _).mono hq0'.size)))))
            have hq2 : Below wc.heap.size wc (u1.drewN nq) := hq0.trans ((below_drewN _ _ _).mono hq0.size)
            generalize u1.drewN nq = u2 at hq2 ⊢
            clear c30 c31 ea eb HL2 hq0 hq0' h0I
            have d1 := distP_any _ _ a b u2 (HO.out.below (HBX.out.trans (hq2.mono HBX.out.size))) HGO.out
            rw [HE1.out] at d1
            go_wp2_with fail
            refine d1.mono ?_
            rintro e w2 ⟨rfl, hb2⟩
            have hb2c : Below wc.heap.size wc w2 := hq2.trans (hb2.mono hq2.size)
            have d2 := distP_any _ _ a b w2 (HO2.out.below hb2c) HGO2.out
            rw [HE2.out] at d2
            clear hb2 hq2 d1
            go_wp2_with fail
            refine d2.mono ?_
            rintro e w3 ⟨rfl, hb3⟩
            have hb3c : Below wc.heap.size wc w3 := hb2c.trans (hb3.mono hb2c.size)
            have hb31 : Below w1.heap.size w1 w3 := HBX.out.trans (hb3c.mono HBX.out.size)
            have c20 := (HK2.out.below hb31 HK2.out.lt).cell 0
            simp only [List.getElem?_toArray, List.getElem?_cons_zero] at c20
            have d3 := distP_any _ _ a r1 w3 (HO.out.below hb31) HGO.out
            rw [HE3.out] at d3
            have hcd : ok = true → decide (d < c') = false := fun h => decide_eq_false (by have := (HF1.out h).2; omega)
            have HB31 := Lib.hid hb31; have HCD := Lib.hid hcd
            clear hb3 hb3c hb2c hb31 d2 hcd
            have d4 := fun W (hW : Below w3.heap.size w3 W) => distP_any _ _ r2 b W (HO.out.below (HB31.out.trans (hW.mono HB31.out.size))) HGO.out
            have HD4 := Lib.hid d4
            clear d4
            have hok : ok = false ∨ (ok = true ∧ is_ = true) := by
              cases ok
              · exact .inl rfl
              · exact .inr ⟨rfl, (HF1.out rfl).1⟩
            have hfin : (pk = true ∧ qk = true ∧ is_ = true ∧ c' ≤ p + r3 + q) ∨ pk = false ∨ (pk = true ∧ qk = false) := by
              cases pk
              · exact .inr (.inl rfl)
              · cases qk
                · exact .inr (.inr ⟨rfl, rfl⟩)
                · exact .inl ⟨rfl, rfl, (HF2.out rfl rfl).1, (HF2.out rfl rfl).2⟩
            have HFIN := Lib.hid hfin
            clear hfin
            rcases hok with rfl | ⟨rfl, rfl⟩
            · skip
              go_wp2_with fail
              refine d3.mono ?_
              rintro e w4 ⟨rfl, hb4⟩
              have d4 := HD4.out w4 hb4
              rw [HE4.out] at d4
              have hb41 : Below w1.heap.size w1 w4 := HB31.out.trans (hb4.mono HB31.out.size)
              have c21 := (HK2.out.below hb41 HK2.out.lt).cell 1
              simp only [List.getElem?_toArray, List.getElem?_cons_zero, List.getElem?_cons_succ] at c21
              clear hb4 d3 c20
              go_wp2_with fail
              refine d4.mono ?_
              rintro e w5 ⟨rfl, hb5⟩
              have hb51 : Below w1.heap.size w1 w5 := hb41.trans (hb5.mono hb41.size)
              have c22 := (HK2.out.below hb51 HK2.out.lt).cell 2
              simp only [List.getElem?_toArray, List.getElem?_cons_zero, List.getElem?_cons_succ] at c22
              have HBE := Lib.hid (HB1.out.trans (hb51.mono HB1.out.size))
              clear hb5 hb51 hb41 c21 d4
              rcases HFIN.out with ⟨rfl, rfl, rfl, hle⟩ | rfl | ⟨rfl, rfl⟩
              · skip
                go_wp2_with fail
                refine (HWK.out _).mono ?_
                rintro e w8 ⟨rfl, hb8⟩
                go_wp2
                go_ret
                exact ⟨rfl, HBE.out.trans (hb8.mono HBE.out.size)⟩
              · skip
                go_wp2_with fail
                refine (HWK.out _).mono ?_
                rintro e w8 ⟨rfl, hb8⟩
                go_wp2
                go_ret
                exact ⟨rfl, HBE.out.trans (hb8.mono HBE.out.size)⟩
              · skip
                go_wp2_with fail
                refine (HWK.out _).mono ?_
                rintro e w8 ⟨rfl, hb8⟩
                go_wp2
                go_ret
                exact ⟨rfl, HBE.out.trans (hb8.mono HBE.out.size)⟩
            · skip
              have hcd := HCD.out rfl
              go_wp2_with fail
              refine d3.mono ?_
              rintro e w4 ⟨rfl, hb4⟩
              have d4 := HD4.out w4 hb4
              rw [HE4.out] at d4
              have hb41 : Below w1.heap.size w1 w4 := HB31.out.trans (hb4.mono HB31.out.size)
              have c21 := (HK2.out.below hb41 HK2.out.lt).cell 1
              simp only [List.getElem?_toArray, List.getElem?_cons_zero, List.getElem?_cons_succ] at c21
              clear hb4 d3 c20
              go_wp2_with fail
              refine d4.mono ?_
              rintro e w5 ⟨rfl, hb5⟩
              have hb51 : Below w1.heap.size w1 w5 := hb41.trans (hb5.mono hb41.size)
              have c22 := (HK2.out.below hb51 HK2.out.lt).cell 2
              simp only [List.getElem?_toArray, List.getElem?_cons_zero, List.getElem?_cons_succ] at c22
              have HBE := Lib.hid (HB1.out.trans (hb51.mono HB1.out.size))
              clear hb5 hb51 hb41 c21 d4
              rcases HFIN.out with ⟨rfl, rfl, _, hle⟩ | rfl | ⟨rfl, rfl⟩
              · skip
                go_wp2_with fail
                refine (HWK.out _).mono ?_
                rintro e w8 ⟨rfl, hb8⟩
                go_wp2
                go_ret
                exact ⟨rfl, HBE.out.trans (hb8.mono HBE.out.size)⟩
              · skip
                go_wp2_with fail
                refine (HWK.out _).mono ?_
                rintro e w8 ⟨rfl, hb8⟩
                go_wp2
                go_ret
                exact ⟨rfl, HBE.out.trans (hb8.mono HBE.out.size)⟩
              · skip
                go_wp2_with fail
                refine (HWK.out _).mono ?_
                rintro e w8 ⟨rfl, hb8⟩
                go_wp2
                go_ret
                exact ⟨rfl, HBE.out.trans (hb8.mono HBE.out.size)⟩

        · skip
          go_upto_region 4 with fail
          go_cut [9, 10] (fun p e wx => p = .pointer none ∧ e = .int .i64 (newE names (roads ++ [(r1, r2, r3)])) ∧ Below w1.heap.size w1 wx)
          case first =>
            refine wp_region_held_drew (S := (fun w' => w'.cell? ⟨w.heap.size, 0, none⟩ = some (.slice A n c) ∧ w'.cell? ⟨w.heap.size, 1, none⟩ = some (.slice B m k) ∧ w'.cell? ⟨w.heap.size + 1, 0, none⟩ = some (.int .i64 r1) ∧ w'.cell? ⟨w.heap.size + 1, 1, none⟩ = some (.int .i64 r2) ∧ w'.cell? ⟨w.heap.size + 1, 2, none⟩ = some (.int .i64 r3))) (by kernel_rfl) ?_ (fun hHeld => ?_)
            · (try dsimp only)
              exact HKEEP.out _ (Below.refl _ w1).drew
            have hbwd : Below w1.heap.size w1 w1.drew := (Below.refl _ w1).drew
            generalize w1.drew = wd at hbwd hHeld ⊢
            refine wpAnyH_take (i := 0) (v := ?_) rfl (by kernel_rfl) (by kernel_rfl) (by kernel_rfl) (fun _ _ _ h => h) (Or.inl ⟨by rfl, ?_⟩) (by assumption) ?_
            rotate_left
            · intro w hSw
              (try dsimp only at hSw)
              go_simp <;> with_reducible rfl
            try simp only [Act.put, List.getElem_toArray, List.getElem_cons_succ, List.getElem_cons_zero, List.setIfInBounds_toArray, List.set_cons_zero, List.set_cons_succ]
            refine wpAnyH_take (i := 1) (v := ?_) rfl (by kernel_rfl) (by kernel_rfl) (by kernel_rfl) (fun _ _ _ h => h) (Or.inl ⟨by rfl, ?_⟩) (by assumption) ?_
            rotate_left
            · intro w hSw
              (try dsimp only at hSw)
              go_simp <;> with_reducible rfl
            try simp only [Act.put, List.getElem_toArray, List.getElem_cons_succ, List.getElem_cons_zero, List.setIfInBounds_toArray, List.set_cons_zero, List.set_cons_succ]
            refine wpAnyH_take (i := 3) (v := ?_) rfl (by kernel_rfl) (by kernel_rfl) (by kernel_rfl) (fun _ _ _ h => h) (Or.inl ⟨by rfl, ?_⟩) (by assumption) ?_
            rotate_left
            · intro w hSw
              (try dsimp only at hSw)
              go_simp <;> with_reducible rfl
            try simp only [Act.put, List.getElem_toArray, List.getElem_cons_succ, List.getElem_cons_zero, List.setIfInBounds_toArray, List.set_cons_zero, List.set_cons_succ]
            refine wpAnyH_take (i := 4) (v := ?_) rfl (by kernel_rfl) (by kernel_rfl) (by kernel_rfl) (fun _ _ _ h => h) (Or.inl ⟨by rfl, ?_⟩) (by assumption) ?_
            rotate_left
            · intro w hSw
              (try dsimp only at hSw)
              go_simp <;> with_reducible rfl
            try simp only [Act.put, List.getElem_toArray, List.getElem_cons_succ, List.getElem_cons_zero, List.setIfInBounds_toArray, List.set_cons_zero, List.set_cons_succ]
            refine wpAnyH_take (i := 6) (v := ?_) rfl (by kernel_rfl) (by kernel_rfl) (by kernel_rfl) (fun _ _ _ h => h) (Or.inl ⟨by rfl, ?_⟩) (by assumption) ?_
            rotate_left
            · intro w hSw
              (try dsimp only at hSw)
              go_simp <;> with_reducible rfl
            try simp only [Act.put, List.getElem_toArray, List.getElem_cons_succ, List.getElem_cons_zero, List.setIfInBounds_toArray, List.set_cons_zero, List.set_cons_succ]
            refine wpAnyH_ready (rs := [2, 7]) (by kernel_rfl) (by simp) ?_
            refine AllReadyH.cons rfl (fun K hK => ?_) (AllReadyH.cons rfl (fun K hK => ?_) AllReadyH.nil)
            · skip
              go_simp
              have hbva : Below w1.heap.size w1 (wd.alloc (.cells #[] 43)) := hbwd.alloc hbwd.size _
              have ho := own_mono (own_empty3 wd 43) hbwd.size
              have hsva : (wd.alloc (.cells #[] 43)).heap.size = wd.heap.size + 1 := by simp
              refine hK.out _ _ ?_ (fun hHeld' => ?_)
              · (try dsimp only)
                exact HKEEP.out _ hbva
              clear hK K hHeld
              have hHeld := hHeld'
              clear hHeld'
              have hq2 : wd.heap.size < (wd.alloc (.cells #[] 43)).heap.size := by rw [hsva]; omega
              generalize wd.alloc (.cells #[] 43) = va at hbva ho hsva hHeld hq2 ⊢
              refine wpAnyH_ready (rs := [5, 7]) (by kernel_rfl) (by simp) ?_
              refine AllReadyH.cons rfl (fun K hK => ?_) (AllReadyH.cons rfl (fun K hK => ?_) AllReadyH.nil)
              · skip
                refine step_append_any _ rfl (.tmp 48) (.tmp 50) 23 rfl w1.heap.size 43 i2 (.agg #[.int .i64 0, .int .i64 0, .int .i64 0]) 3 24 Tryd.underlying23 hi2 hz20 hz21 hz22 rfl (by decide) (.slice (some ⟨wd.heap.size, 0, none⟩) 0 0) 0 [] (by simp [Act.eval, Act.put]) ho w.heap.size B m k (roads.flatMap roadV) (by simp [Act.eval, Act.put]) (HR0.out.below (HB1.out.trans (hbva.mono HB1.out.size))) HONE.out (by unfold maxLen; omega) (by omega) hbva.size ?_
                intro v5 w5 ho5 hg5 _
                have hbw5 : Below w1.heap.size w1 w5 := hbva.grown hg5 hbva.size (fun g hg => (ho.lt g hg).1)
                rw [Nat.zero_add, List.nil_append] at ho5
                obtain ⟨A5, c5, rfl, _, _⟩ := ownsRow_form ho5
                refine hK.out _ _ ?_ (fun hHeld' => ?_)
                · (try dsimp only)
                  exact HKEEP.out _ hbw5
                clear hK K hHeld
                have hHeld := hHeld'
                clear hHeld'
                clear hg5 ho
                refine wpAnyH_ready (rs := [7]) (by kernel_rfl) (by simp) ?_
                refine AllReadyH.cons rfl (fun K hK => ?_) AllReadyH.nil
                go_simp
                have hbvb : Below w1.heap.size w1 (w5.alloc (.cells #[.int .i64 r1, .int .i64 r2, .int .i64 r3] 43)) := hbw5.alloc hbw5.size _
                have hx := Blk.new w5 43 #[.int .i64 r1, .int .i64 r2, .int .i64 r3]
                have hsvb : (w5.alloc (.cells #[.int .i64 r1, .int .i64 r2, .int .i64 r3] 43)).heap.size = w5.heap.size + 1 := by simp
                have ho5 := own_al ho5 (.cells #[.int .i64 r1, .int .i64 r2, .int .i64 r3] 43)
                refine hK.out _ _ ?_ (fun hHeld' => ?_)
                · (try dsimp only)
                  exact HKEEP.out _ hbvb
                clear hK K hHeld
                have hHeld := hHeld'
                clear hHeld'
                generalize w5.alloc (.cells #[.int .i64 r1, .int .i64 r2, .int .i64 r3] 43) = vb at hbvb hx hsvb hHeld ho5 ⊢
                refine wpAnyH_ready (rs := [8]) (by kernel_rfl) (by simp) ?_
                refine AllReadyH.cons rfl (fun K hK => ?_) AllReadyH.nil
                refine step_append_any _ rfl (.tmp 51) (.tmp 53) 23 rfl w1.heap.size 43 i2 (.agg #[.int .i64 0, .int .i64 0, .int .i64 0]) 3 24 Tryd.underlying23 hi2 hz20 hz21 hz22 rfl (by decide) (.slice A5 m c5) m (roads.flatMap roadV) (by simp [Act.eval, Act.put]) ho5 (w5.heap.size + 1) (some ⟨w5.heap.size, 0, none⟩) 1 1 [.int .i64 r1, .int .i64 r2, .int .i64 r3] (by simp [Act.eval, Act.put]) (reads_blk3 hx (Nat.lt_succ_self _)) (by simp [Value.oneCell']) (by unfold maxLen; omega) (by omega) hbvb.size ?_
                intro v8 w8 ho8 hg8 _
                have hbw8 : Below w1.heap.size w1 w8 := hbvb.grown hg8 hbvb.size (fun g hg => (ho5.lt g hg).1)
                rw [show roads.flatMap roadV ++ [Value.int .i64 r1, .int .i64 r2, .int .i64 r3] = (roads ++ [(r1, r2, r3)]).flatMap roadV by rw [List.flatMap_append]; rfl] at ho8
                obtain ⟨A8, c8, rfl, _, _⟩ := ownsRow_form ho8
                refine hK.out _ _ ?_ (fun hHeld' => ?_)
                · (try dsimp only)
                  exact HKEEP.out _ hbw8
                clear hK K hHeld
                have hHeld := hHeld'
                clear hHeld'
                clear hg8 ho5 hx
                refine wpAnyH_ready (rs := [9]) (by kernel_rfl) (by simp) ?_
                refine AllReadyH.cons rfl (fun K hK => ?_) AllReadyH.nil
                go_simp
                (try go_wp2_with fail)
                refine (HNEW.out A A8 n c (m + 1) c8 names (roads ++ [(r1, r2, r3)]) w8 ((Reads.below HN0.out (HB1.out.trans (hbw8.mono HB1.out.size))).more (HB1.out.trans (hbw8.mono HB1.out.size)).size) (Reads.of_own ho8) HS0.out).mono ?_
                rintro e w9 ⟨hbad2, hgood2, hb9⟩
                have hbw9 : Below w1.heap.size w1 w9 := hbw8.trans (hb9.mono hbw8.size)
                obtain rfl := hbad2 hE2
                (try go_simp)
                refine hK.out _ _ ?_ (fun hHeld' => ?_)
                · (try dsimp only)
                  exact HKEEP.out _ hbw9
                clear hK K hHeld
                have hHeld := hHeld'
                clear hHeld'
                refine wpAnyH_take (i := 10) (v := ?_) rfl (by kernel_rfl) (by kernel_rfl) (by kernel_rfl) (fun _ _ _ h => h) (Or.inl ⟨by rfl, ?_⟩) (by assumption) ?_
                rotate_left
                · intro w hSw
                  (try dsimp only at hSw)
                  go_simp <;> with_reducible rfl
                try simp only [Act.put, List.getElem_toArray, List.getElem_cons_succ, List.getElem_cons_zero, List.setIfInBounds_toArray, List.set_cons_zero, List.set_cons_succ]
                refine wpAnyH_take (i := 11) (v := ?_) rfl (by kernel_rfl) (by kernel_rfl) (by kernel_rfl) (fun _ _ _ h => h) (Or.inl ⟨by rfl, ?_⟩) (by assumption) ?_
                rotate_left
                · intro w hSw
                  (try dsimp only at hSw)
                  go_simp <;> with_reducible rfl
                try simp only [Act.put, List.getElem_toArray, List.getElem_cons_succ, List.getElem_cons_zero, List.setIfInBounds_toArray, List.set_cons_zero, List.set_cons_succ]
                refine wpAnyH_take (i := 12) (v := ?_) rfl (by kernel_rfl) (by kernel_rfl) (by kernel_rfl) (fun _ _ _ h => h) (Or.inl ⟨by rfl, ?_⟩) (by assumption) ?_
                rotate_left
                · intro w hSw
                  (try dsimp only at hSw)
                  go_simp <;> with_reducible rfl
                try simp only [Act.put, List.getElem_toArray, List.getElem_cons_succ, List.getElem_cons_zero, List.setIfInBounds_toArray, List.set_cons_zero, List.set_cons_succ]
                refine wpAnyH_take (i := 13) (v := ?_) rfl (by kernel_rfl) (by kernel_rfl) (by kernel_rfl) (fun _ _ _ h => h) (Or.inl ⟨by rfl, ?_⟩) (by assumption) ?_
                rotate_left
                · intro w hSw
                  (try dsimp only at hSw)
                  go_simp <;> with_reducible rfl
                try simp only [Act.put, List.getElem_toArray, List.getElem_cons_succ, List.getElem_cons_zero, List.setIfInBounds_toArray, List.set_cons_zero, List.set_cons_succ]
                refine wpAnyH_take (i := 14) (v := ?_) rfl (by kernel_rfl) (by kernel_rfl) (by kernel_rfl) (fun _ _ _ h => h) (Or.inl ⟨by rfl, ?_⟩) (by assumption) ?_
                rotate_left
                · intro w hSw
                  (try dsimp only at hSw)
                  go_simp <;> with_reducible rfl
                try simp only [Act.put, List.getElem_toArray, List.getElem_cons_succ, List.getElem_cons_zero, List.setIfInBounds_toArray, List.set_cons_zero, List.set_cons_succ]
                refine wpAnyH_done (by kernel_rfl) ?_ _
                go_wp2_with fail
                go_meet
                exact ⟨rfl, rfl, hbw9⟩
              · skip
                go_simp
                have hbvb : Below w1.heap.size w1 (va.alloc (.cells #[.int .i64 r1, .int .i64 r2, .int .i64 r3] 43)) := hbva.alloc hbva.size _
                have hx := Blk.new va 43 #[.int .i64 r1, .int .i64 r2, .int .i64 r3]
                have hsvb : (va.alloc (.cells #[.int .i64 r1, .int .i64 r2, .int .i64 r3] 43)).heap.size = va.heap.size + 1 := by simp
                have ho := own_al ho (.cells #[.int .i64 r1, .int .i64 r2, .int .i64 r3] 43)
                refine hK.out _ _ ?_ (fun hHeld' => ?_)
                · (try dsimp only)
                  exact HKEEP.out _ hbvb
                clear hK K hHeld
                have hHeld := hHeld'
                clear hHeld'
                generalize va.alloc (.cells #[.int .i64 r1, .int .i64 r2, .int .i64 r3] 43) = vb at hbvb hx hsvb hHeld ho ⊢
                refine wpAnyH_ready (rs := [5]) (by kernel_rfl) (by simp) ?_
                refine AllReadyH.cons rfl (fun K hK => ?_) AllReadyH.nil
                refine step_append_any _ rfl (.tmp 48) (.tmp 50) 23 rfl w1.heap.size 43 i2 (.agg #[.int .i64 0, .int .i64 0, .int .i64 0]) 3 24 Tryd.underlying23 hi2 hz20 hz21 hz22 rfl (by decide) (.slice (some ⟨wd.heap.size, 0, none⟩) 0 0) 0 [] (by simp [Act.eval, Act.put]) ho w.heap.size B m k (roads.flatMap roadV) (by simp [Act.eval, Act.put]) (HR0.out.below (HB1.out.trans (hbvb.mono HB1.out.size))) HONE.out (by unfold maxLen; omega) (by omega) hbvb.size ?_
                intro v5 w5 ho5 hg5 _
                have hbw5 : Below w1.heap.size w1 w5 := hbvb.grown hg5 hbvb.size (fun g hg => (ho.lt g hg).1)
                have hx := hx.grown hg5 (fun e => by have e' : va.heap.size = wd.heap.size := (by simpa [Value.ownBlock] using e); omega)
                rw [Nat.zero_add, List.nil_append] at ho5
                obtain ⟨A5, c5, rfl, _, _⟩ := ownsRow_form ho5
                refine hK.out _ _ ?_ (fun hHeld' => ?_)
                · (try dsimp only)
                  exact HKEEP.out _ hbw5
                clear hK K hHeld
                have hHeld := hHeld'
                clear hHeld'
                clear hg5 ho
                refine wpAnyH_ready (rs := [8]) (by kernel_rfl) (by simp) ?_
                refine AllReadyH.cons rfl (fun K hK => ?_) AllReadyH.nil
                refine step_append_any _ rfl (.tmp 51) (.tmp 53) 23 rfl w1.heap.size 43 i2 (.agg #[.int .i64 0, .int .i64 0, .int .i64 0]) 3 24 Tryd.underlying23 hi2 hz20 hz21 hz22 rfl (by decide) (.slice A5 m c5) m (roads.flatMap roadV) (by simp [Act.eval, Act.put]) ho5 (va.heap.size + 1) (some ⟨va.heap.size, 0, none⟩) 1 1 [.int .i64 r1, .int .i64 r2, .int .i64 r3] (by simp [Act.eval, Act.put]) (reads_blk3 hx (Nat.lt_succ_self _)) (by simp [Value.oneCell']) (by unfold maxLen; omega) (by omega) hbw5.size ?_
                intro v8 w8 ho8 hg8 _
                have hbw8 : Below w1.heap.size w1 w8 := hbw5.grown hg8 hbw5.size (fun g hg => (ho5.lt g hg).1)
                rw [show roads.flatMap roadV ++ [Value.int .i64 r1, .int .i64 r2, .int .i64 r3] = (roads ++ [(r1, r2, r3)]).flatMap roadV by rw [List.flatMap_append]; rfl] at ho8
                obtain ⟨A8, c8, rfl, _, _⟩ := ownsRow_form ho8
                refine hK.out _ _ ?_ (fun hHeld' => ?_)
                · (try dsimp only)
                  exact HKEEP.out _ hbw8
                clear hK K hHeld
                have hHeld := hHeld'
                clear hHeld'
                clear hg8 ho5 hx
                refine wpAnyH_ready (rs := [9]) (by kernel_rfl) (by simp) ?_
                refine AllReadyH.cons rfl (fun K hK => ?_) AllReadyH.nil
                go_simp
                (try go_wp2_with fail)
                refine (HNEW.out A A8 n c (m + 1) c8 names (roads ++ [(r1, r2, r3)]) w8 ((Reads.below HN0.out (HB1.out.trans (hbw8.mono HB1.out.size))).more (HB1.out.trans (hbw8.mono HB1.out.size)).size) (Reads.of_own ho8) HS0.out).mono ?_
                rintro e w9 ⟨hbad2, hgood2, hb9⟩
                have hbw9 : Below w1.heap.size w1 w9 := hbw8.trans (hb9.mono hbw8.size)
                obtain rfl := hbad2 hE2
                (try go_simp)
                refine hK.out _ _ ?_ (fun hHeld' => ?_)
                · (try dsimp only)
                  exact HKEEP.out _ hbw9
                clear hK K hHeld
                have hHeld := hHeld'
                clear hHeld'
                refine wpAnyH_take (i := 10) (v := ?_) rfl (by kernel_rfl) (by kernel_rfl) (by kernel_rfl) (fun _ _ _ h => h) (Or.inl ⟨by rfl, ?_⟩) (by assumption) ?_
                rotate_left
                · intro w hSw
                  (try dsimp only at hSw)
                  go_simp <;> with_reducible rfl
                try simp only [Act.put, List.getElem_toArray, List.getElem_cons_succ, List.getElem_cons_zero, List.setIfInBounds_toArray, List.set_cons_zero, List.set_cons_succ]
                refine wpAnyH_take (i := 11) (v := ?_) rfl (by kernel_rfl) (by kernel_rfl) (by kernel_rfl) (fun _ _ _ h => h) (Or.inl ⟨by rfl, ?_⟩) (by assumption) ?_
                rotate_left
                · intro w hSw
                  (try dsimp only at hSw)
                  go_simp <;> with_reducible rfl
                try simp only [Act.put, List.getElem_toArray, List.getElem_cons_succ, List.getElem_cons_zero, List.setIfInBounds_toArray, List.set_cons_zero, List.set_cons_succ]
                refine wpAnyH_take (i := 12) (v := ?_) rfl (by kernel_rfl) (by kernel_rfl) (by kernel_rfl) (fun _ _ _ h => h) (Or.inl ⟨by rfl, ?_⟩) (by assumption) ?_
                rotate_left
                · intro w hSw
                  (try dsimp only at hSw)
                  go_simp <;> with_reducible rfl
                try simp only [Act.put, List.getElem_toArray, List.getElem_cons_succ, List.getElem_cons_zero, List.setIfInBounds_toArray, List.set_cons_zero, List.set_cons_succ]
                refine wpAnyH_take (i := 13) (v := ?_) rfl (by kernel_rfl) (by kernel_rfl) (by kernel_rfl) (fun _ _ _ h => h) (Or.inl ⟨by rfl, ?_⟩) (by assumption) ?_
                rotate_left
                · intro w hSw
                  (try dsimp only at hSw)
                  go_simp <;> with_reducible rfl
                try simp only [Act.put, List.getElem_toArray, List.getElem_cons_succ, List.getElem_cons_zero, List.setIfInBounds_toArray, List.set_cons_zero, List.set_cons_succ]
                refine wpAnyH_take (i := 14) (v := ?_) rfl (by kernel_rfl) (by kernel_rfl) (by kernel_rfl) (fun _ _ _ h => h) (Or.inl ⟨by rfl, ?_⟩) (by assumption) ?_
                rotate_left
                · intro w hSw
                  (try dsimp only at hSw)
                  go_simp <;> with_reducible rfl
                try simp only [Act.put, List.getElem_toArray, List.getElem_cons_succ, List.getElem_cons_zero, List.setIfInBounds_toArray, List.set_cons_zero, List.set_cons_succ]
                refine wpAnyH_done (by kernel_rfl) ?_ _
                go_wp2_with fail
                go_meet
                exact ⟨rfl, rfl, hbw9⟩
            · skip
              go_simp
              have hbva : Below w1.heap.size w1 (wd.alloc (.cells #[.int .i64 r1, .int .i64 r2, .int .i64 r3] 43)) := hbwd.alloc hbwd.size _
              have hx := Blk.new wd 43 #[.int .i64 r1, .int .i64 r2, .int .i64 r3]
              have hsva : (wd.alloc (.cells #[.int .i64 r1, .int .i64 r2, .int .i64 r3] 43)).heap.size = wd.heap.size + 1 := by simp
              refine hK.out _ _ ?_ (fun hHeld' => ?_)
              · (try dsimp only)
                exact HKEEP.out _ hbva
              clear hK K hHeld
              have hHeld := hHeld'
              clear hHeld'
              generalize wd.alloc (.cells #[.int .i64 r1, .int .i64 r2, .int .i64 r3] 43) = va at hbva hx hsva hHeld ⊢
              refine wpAnyH_ready (rs := [2]) (by kernel_rfl) (by simp) ?_
              refine AllReadyH.cons rfl (fun K hK => ?_) AllReadyH.nil
              go_simp
              have hbvb : Below w1.heap.size w1 (va.alloc (.cells #[] 43)) := hbva.alloc hbva.size _
              have ho := own_mono (own_empty3 va 43) hbva.size
              have hsvb : (va.alloc (.cells #[] 43)).heap.size = va.heap.size + 1 := by simp
              have hx := hx.alloc (.cells #[] 43)
              refine hK.out _ _ ?_ (fun hHeld' => ?_)
              · (try dsimp only)
                exact HKEEP.out _ hbvb
              clear hK K hHeld
              have hHeld := hHeld'
              clear hHeld'
              have hq2 : va.heap.size < (va.alloc (.cells #[] 43)).heap.size := by rw [hsvb]; omega
              generalize va.alloc (.cells #[] 43) = vb at hbvb ho hsvb hHeld hq2 hx ⊢
              refine wpAnyH_ready (rs := [5]) (by kernel_rfl) (by simp) ?_
              refine AllReadyH.cons rfl (fun K hK => ?_) AllReadyH.nil
              refine step_append_any _ rfl (.tmp 48) (.tmp 50) 23 rfl w1.heap.size 43 i2 (.agg #[.int .i64 0, .int .i64 0, .int .i64 0]) 3 24 Tryd.underlying23 hi2 hz20 hz21 hz22 rfl (by decide) (.slice (some ⟨va.heap.size, 0, none⟩) 0 0) 0 [] (by simp [Act.eval, Act.put]) ho w.heap.size B m k (roads.flatMap roadV) (by simp [Act.eval, Act.put]) (HR0.out.below (HB1.out.trans (hbvb.mono HB1.out.size))) HONE.out (by unfold maxLen; omega) (by omega) hbvb.size ?_
              intro v5 w5 ho5 hg5 _
              have hbw5 : Below w1.heap.size w1 w5 := hbvb.grown hg5 hbvb.size (fun g hg => (ho.lt g hg).1)
              have hx := hx.grown hg5 (fun e => by have e' : wd.heap.size = va.heap.size := (by simpa [Value.ownBlock] using e); omega)
              rw [Nat.zero_add, List.nil_append] at ho5
              obtain ⟨A5, c5, rfl, _, _⟩ := ownsRow_form ho5
              refine hK.out _ _ ?_ (fun hHeld' => ?_)
              · (try dsimp only)
                exact HKEEP.out _ hbw5
              clear hK K hHeld
              have hHeld := hHeld'
              clear hHeld'
              clear hg5 ho
              refine wpAnyH_ready (rs := [8]) (by kernel_rfl) (by simp) ?_
              refine AllReadyH.cons rfl (fun K hK => ?_) AllReadyH.nil
              refine step_append_any _ rfl (.tmp 51) (.tmp 53) 23 rfl w1.heap.size 43 i2 (.agg #[.int .i64 0, .int .i64 0, .int .i64 0]) 3 24 Tryd.underlying23 hi2 hz20 hz21 hz22 rfl (by decide) (.slice A5 m c5) m (roads.flatMap roadV) (by simp [Act.eval, Act.put]) ho5 (wd.heap.size + 1) (some ⟨wd.heap.size, 0, none⟩) 1 1 [.int .i64 r1, .int .i64 r2, .int .i64 r3] (by simp [Act.eval, Act.put]) (reads_blk3 hx (Nat.lt_succ_self _)) (by simp [Value.oneCell']) (by unfold maxLen; omega) (by omega) hbw5.size ?_
              intro v8 w8 ho8 hg8 _
              have hbw8 : Below w1.heap.size w1 w8 := hbw5.grown hg8 hbw5.size (fun g hg => (ho5.lt g hg).1)
              rw [show roads.flatMap roadV ++ [Value.int .i64 r1, .int .i64 r2, .int .i64 r3] = (roads ++ [(r1, r2, r3)]).flatMap roadV by rw [List.flatMap_append]; rfl] at ho8
              obtain ⟨A8, c8, rfl, _, _⟩ := ownsRow_form ho8
              refine hK.out _ _ ?_ (fun hHeld' => ?_)
              · (try dsimp only)
                exact HKEEP.out _ hbw8
              clear hK K hHeld
              have hHeld := hHeld'
              clear hHeld'
              clear hg8 ho5 hx
              refine wpAnyH_ready (rs := [9]) (by kernel_rfl) (by simp) ?_
              refine AllReadyH.cons rfl (fun K hK => ?_) AllReadyH.nil
              go_simp
              (try go_wp2_with fail)
              refine (HNEW.out A A8 n c (m + 1) c8 names (roads ++ [(r1, r2, r3)]) w8 ((Reads.below HN0.out (HB1.out.trans (hbw8.mono HB1.out.size))).more (HB1.out.trans (hbw8.mono HB1.out.size)).size) (Reads.of_own ho8) HS0.out).mono ?_
              rintro e w9 ⟨hbad2, hgood2, hb9⟩
              have hbw9 : Below w1.heap.size w1 w9 := hbw8.trans (hb9.mono hbw8.size)
              obtain rfl := hbad2 hE2
              (try go_simp)
              refine hK.out _ _ ?_ (fun hHeld' => ?_)
              · (try dsimp only)
                exact HKEEP.out _ hbw9
              clear hK K hHeld
              have hHeld := hHeld'
              clear hHeld'
              refine wpAnyH_take (i := 10) (v := ?_) rfl (by kernel_rfl) (by kernel_rfl) (by kernel_rfl) (fun _ _ _ h => h) (Or.inl ⟨by rfl, ?_⟩) (by assumption) ?_
              rotate_left
              · intro w hSw
                (try dsimp only at hSw)
                go_simp <;> with_reducible rfl
              try simp only [Act.put, List.getElem_toArray, List.getElem_cons_succ, List.getElem_cons_zero, List.setIfInBounds_toArray, List.set_cons_zero, List.set_cons_succ]
              refine wpAnyH_take (i := 11) (v := ?_) rfl (by kernel_rfl) (by kernel_rfl) (by kernel_rfl) (fun _ _ _ h => h) (Or.inl ⟨by rfl, ?_⟩) (by assumption) ?_
              rotate_left
              · intro w hSw
                (try dsimp only at hSw)
                go_simp <;> with_reducible rfl
              try simp only [Act.put, List.getElem_toArray, List.getElem_cons_succ, List.getElem_cons_zero, List.setIfInBounds_toArray, List.set_cons_zero, List.set_cons_succ]
              refine wpAnyH_take (i := 12) (v := ?_) rfl (by kernel_rfl) (by kernel_rfl) (by kernel_rfl) (fun _ _ _ h => h) (Or.inl ⟨by rfl, ?_⟩) (by assumption) ?_
              rotate_left
              · intro w hSw
                (try dsimp only at hSw)
                go_simp <;> with_reducible rfl
              try simp only [Act.put, List.getElem_toArray, List.getElem_cons_succ, List.getElem_cons_zero, List.setIfInBounds_toArray, List.set_cons_zero, List.set_cons_succ]
              refine wpAnyH_take (i := 13) (v := ?_) rfl (by kernel_rfl) (by kernel_rfl) (by kernel_rfl) (fun _ _ _ h => h) (Or.inl ⟨by rfl, ?_⟩) (by assumption) ?_
              rotate_left
              · intro w hSw
                (try dsimp only at hSw)
                go_simp <;> with_reducible rfl
              try simp only [Act.put, List.getElem_toArray, List.getElem_cons_succ, List.getElem_cons_zero, List.setIfInBounds_toArray, List.set_cons_zero, List.set_cons_succ]
              refine wpAnyH_take (i := 14) (v := ?_) rfl (by kernel_rfl) (by kernel_rfl) (by kernel_rfl) (fun _ _ _ h => h) (Or.inl ⟨by rfl, ?_⟩) (by assumption) ?_
              rotate_left
              · intro w hSw
                (try dsimp only at hSw)
                go_simp <;> with_reducible rfl
              try simp only [Act.put, List.getElem_toArray, List.getElem_cons_succ, List.getElem_cons_zero, List.setIfInBounds_toArray, List.set_cons_zero, List.set_cons_succ]
              refine wpAnyH_done (by kernel_rfl) ?_ _
              go_wp2_with fail
              go_meet
              exact ⟨rfl, rfl, hbw9⟩
          case rest =>
            obtain ⟨rfl, rfl, hbx⟩ := hcut
            have hE2I : ¬ (newE names (roads ++ [(r1, r2, r3)]) = 0) := hE2
            generalize newE names (roads ++ [(r1, r2, r3)]) = E2 at hE2I ⊢
            clear c10 c11 c20 c21 c22
            have HBX := Lib.hid (HB1.out.trans (hbx.mono HB1.out.size))
            clear hbx hE2
            go_wp2_with fail
            refine (HWK.out _).mono ?_
            rintro e w8 ⟨rfl, hb8⟩
            go_wp2
            go_ret
            exact ⟨rfl, HBX.out.trans (hb8.mono HBX.out.size)⟩
  · obtain rfl := hbad hE
    have hEI : ¬ (newE names roads = 0) := hE
    generalize newE names roads = E at hEI
    clear hbad hgood hE
    cases fw
    · go_wp2_with fail
      refine hf.mono ?_
      rintro e w' ⟨rfl, rfl⟩
      go_wp2_with fail
      refine (HWK.out _).mono ?_
      rintro e w2 ⟨rfl, hb2⟩
      go_wp2
      go_ret
      exact ⟨rfl, HB1.out.trans (hb2.mono HB1.out.size)⟩
    · go_wp2_with fail
      refine hf.mono ?_
      rintro e w' ⟨rfl, rfl⟩
      go_wp2_with fail
      refine (HWK.out _).mono ?_
      rintro e w2 ⟨rfl, hb2⟩
      go_wp2
      go_ret
      exact ⟨rfl, HB1.out.trans (hb2.mono HB1.out.size)⟩
end Go.Proofs.YtdelkgfodeilkaaDoor
