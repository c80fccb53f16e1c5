/-
  PointsRoads: the walk, out of New's contract. Conditions: names of at most maxLen bytes.
-/
import Derived.Test.YtdelkgfodeilkaaDoorPtC
import Derived.Test.YtdelkgfodeilkaaDoorPtI
import Derived.Test.YtdelkgfodeilkaaDoorPick
import Derived.Test.YtdelkgfodeilkaaDoorPtN
import Derived.Test.YtdelkgfodeilkaaDoorPtGv
import Derived.Deep.QuietTactic
import Derived.BigQuiet
import Derived.Deep.RegionHeldLaw
namespace Go.Proofs.YtdelkgfodeilkaaDoor
open Go.RowKit Go.Lib

theorem road_facts {names : List ByteArray} {roads : List Rd} (hE : newE names roads = 0) {M : Pts} (hMM : newM names roads = M) {x : Rd} (hx : x ∈ roads) : ∃ (a b : Nat) (l p : Int), x = ((a : Int), (b : Int), l) ∧ a < M.n ∧ b < M.n ∧ a ≠ b ∧ distO (some M) a b = (p, true) ∧ p ≤ l ∧ (b : Int) ∈ nearL (some M) a ∧ (a : Int) ∈ nearL (some M) b := by
  subst hMM
  obtain ⟨_, _, _, hok, _⟩ := newE_zero hE
  obtain ⟨a0, a1, b0, b1, ne, l0, l1⟩ := hok x hx
  have hd := dist_over hE hx
  have ha : x.1.toNat < (newM names roads).n := by show x.1.toNat < names.length; omega
  have hb : x.2.1.toNat < (newM names roads).n := by show x.2.1.toNat < names.length; omega
  refine ⟨x.1.toNat, x.2.1.toNat, x.2.2, max (distM (newM names roads) x.1.toNat x.2.1.toNat) 0, ?_, ha, hb, by omega, ?_, ?_, nearL_mem ha (l := x.2.2) ?_, nearL_mem hb (l := x.2.2) ?_⟩
  · rw [Int.toNat_of_nonneg a0, Int.toNat_of_nonneg b0]
  · rw [distO_in ha hb, decide_eq_true hd.1]
  · have h1 := hd.1
    have h2 := hd.2
    omega
  · exact (edge_new hE _ _ _).2 ⟨x, hx, .inl ⟨by omega, by omega, rfl⟩⟩
  · exact (edge_new hE _ _ _).2 ⟨x, hx, .inr ⟨by omega, by omega, rfl⟩⟩
/-- How many of the first roads are at a point. -/
def cntR (roads : List Rd) (j a : Nat) : Int := (((roads.take j).filter (touches a)).length : Nat)
theorem cntR_zero (roads : List Rd) (a : Nat) : cntR roads 0 a = 0 := rfl
theorem cntR_le (roads : List Rd) (j a : Nat) : 0 ≤ cntR roads j a ∧ cntR roads j a ≤ (roads.length : Nat) := by
  unfold cntR
  have h1 := List.length_filter_le (touches a) (roads.take j)
  have h2 := List.length_take_le j roads
  have h3 : (roads.take j).length ≤ roads.length := by rw [List.length_take]; omega
  omega
theorem cntR_succ (roads : List Rd) {j : Nat} (hj : j < roads.length) {a b : Nat} {l : Int} (he : roads[j] = ((a : Int), (b : Int), l)) (hab : a ≠ b) :
    setF (setF (cntR roads j) a (cntR roads j a + 1)) b (cntR roads j b + 1) = cntR roads (j + 1) := by
  funext x
  have hs : cntR roads (j + 1) x = cntR roads j x + (if touches x roads[j] then 1 else 0) := by
    unfold cntR
    rw [List.take_succ_eq_append_getElem hj, List.filter_append, List.length_append]
    by_cases ht : touches x roads[j] = true
    · rw [List.filter_cons_of_pos ht, if_pos ht]; simp
    · rw [List.filter_cons_of_neg ht, if_neg ht]; simp
  rw [hs, he]
  unfold touches setF
  by_cases h1 : x = b
  · subst h1; rw [if_pos rfl, if_pos (by simp)]
  · rw [if_neg h1]
    by_cases h2 : x = a
    · subst h2; rw [if_pos rfl, if_pos (by simp)]
    · rw [if_neg h2, if_neg (by simp; omega)]; omega
theorem near_count {names : List ByteArray} {roads : List Rd} (hE : newE names roads = 0) {M : Pts} (hMM : newM names roads = M) {a : Nat} (ha : a < M.n) : (((nearL (some M) a).length : Nat) : Int) = cntR roads roads.length a := by
  subst hMM
  obtain ⟨_, _, _, hok, _⟩ := newE_zero hE
  have ha' : a < (nearU names.length roads).length := by rw [nearU_len]; exact ha
  rw [nearL_in ha, List.length_map]
  unfold cntR
  rw [List.take_length, ← nearU_count (n := names.length) a roads hok]
  congr 1
  show (((nearU names.length roads).map fun l => l.mergeSort endLe).getD a []).length = _
  rw [List.getD_eq_getElem?_getD, List.getElem?_map, List.getElem?_eq_getElem ha', List.getD_eq_getElem?_getD, List.getElem?_eq_getElem ha']
  simp
set_option linter.unusedSimpArgs false in
set_option maxRecDepth 40000 in
set_option maxHeartbeats 8000000 in
theorem roads_law (hnew : NewAny) (hwk : WorksAny) (A B : Option Addr) (n c m k : Nat) (names : List ByteArray) (roads : List Rd) (w : World) (hN : ReadS w w.heap.size A n names) (hR : Reads w w.heap.size 3 B m (roads.flatMap roadV)) (hs : ∀ s ∈ names, s.size ≤ maxLen) :
    Calls Tryd.prog 8 #[.agg #[.slice A n c, .slice B m k]] w fun e w' => e = .returned (.bool true) ∧ Below w.heap.size w w' := by
  have hnl := hN.len
  have hb0 : Below w.heap.size w (w.alloc (.cells #[.slice A n c, .slice B m k] 25)) := (Below.refl _ w).alloc (by first | exact Nat.le_refl _ | (simp only [World.size_alloc]; omega)) _
  have hc1 := Blk.new w 25 #[.slice A n c, .slice B m k]
  have hn := hnew A B n c m k names roads _ ((Reads.below hN hb0).more hb0.size) ((hR.below hb0).more hb0.size) hs
  have HR0 := Lib.hid hR; have HN0 := Lib.hid hN; have HS0 := Lib.hid hs
  have HB0 := Lib.hid hb0; have HWK := Lib.hid hwk; have HNL := Lib.hid hnl; have HNEW := Lib.hid hnew
  have HC1 := Lib.hid hc1
  clear hb0 hc1 hN hR hs hwk hnl hnew
  go_enter Tryd.func8, Tryd.ntmps8
  go_wp2_with fail
  refine hn.mono ?_
  rintro e w1 ⟨hbad, hgood, hb1⟩
  have hB1 := HB0.out.trans (hb1.mono HB0.out.size)
  have k1 := HC1.out.below hb1 HC1.out.lt
  have hf := few_any A B n c m k w1
  have c10 := k1.cell 0; have c11 := k1.cell 1
  simp only [List.getElem?_toArray, List.getElem?_cons_zero, List.getElem?_cons_succ] at c10 c11
  have HK1 := Lib.hid k1; have HB1 := Lib.hid hB1
  clear hn hb1 k1 hB1 HB0 HC1
  generalize fewB n m = fw at hf
  by_cases hE : newE names roads = 0
  · obtain ⟨g, rfl, hM⟩ := hgood hE
    have hG := good_new hE
    have HE := Lib.hid hE
    obtain ⟨M, hMM⟩ : ∃ M, newM names roads = M := ⟨_, rfl⟩
    rw [hMM] at hM hG
    have hO : MapO w1 (some ⟨g, 0, none⟩) (some M) := ⟨g, rfl, hM⟩
    have hl := lenP_any _ _ w1 hO
    rw [show lenO (some M) = M.n from rfl] at hl
    have HO := Lib.hid hO; have HG := Lib.hid hG; have HMM := Lib.hid hMM
    have HGO := Lib.hid (show GoodO (some M) from fun M' e => by injection e with e; exact e ▸ hG)
    have hfew : M.n ≤ 128 := hG.few
    clear hbad hgood hM hO hG hE hMM
    cases fw
    · go_wp2_with fail
      refine hf.mono ?_
      rintro e w' ⟨rfl, rfl⟩
      go_wp2_with fail
      refine (HWK.out _).mono ?_
      rintro e w2 ⟨rfl, hb2⟩
      go_wp2
      go_ret
      exact ⟨rfl, HB1.out.trans (hb2.mono HB1.out.size)⟩
    · go_wp2_with fail
      refine hf.mono ?_
      rintro e w' ⟨rfl, rfl⟩
      have hmk := fun W => run_make_row' (P := Tryd.prog) 36 3 (.int .i64 0) 8 Tryd.underlying36 (by kernel_rfl) rfl .i64 .i64 M.n (by omega) (by omega) W
      have hrl : roads.length = m := by
        have := HR0.out.1
        rw [flatMap_len roadV 3 (fun _ => rfl)] at this; omega
      have hm512 : m ≤ 512 := by have := (newE_zero HE.out).2.1; omega
      have HRL := Lib.hid hrl
      have HCS := Lib.hid (show CntM 3 w1 _ w1.heap.size M.n (cntR roads 0) from (show (fun _ : Nat => (0 : Int)) = cntR roads 0 from by funext a; exact (cntR_zero roads a).symm) ▸ CntM.start _ w1 M.n)
      have HNEAR := Lib.hid (fun W hW x => near_gives HO.out HG.out W hW x)
      clear hrl
      go_wp2_with fail
      refine hl.mono ?_
      rintro e w' ⟨rfl, rfl⟩
      go_wp2_with fail
      go_loopw [6] (fun i wr => ∃ j : Nat, j ≤ m ∧ i = .int .i64 j ∧ CntM 3 w1 wr w1.heap.size M.n (cntR roads j)) (fun i _ => m - (intOf i).toNat)
      case atStart => exact ⟨0, by omega, rfl, HCS.out⟩
      case round =>
        obtain ⟨j, hj, rfl, hC⟩ := hrel
        have c11r := (HK1.out.below hC.below HK1.out.lt).cell 1
        simp only [List.getElem?_toArray, List.getElem?_cons_zero, List.getElem?_cons_succ] at c11r
        have HC := Lib.hid hC
        clear hC HCS hmk
        by_cases hlt : j < m
        · have hjl : j < roads.length := by rw [HRL.out]; exact hlt
          obtain ⟨a, b, l, p, ex, ha, hb, hab, hd, hpl, hnb, hna⟩ := road_facts HE.out HMM.out (List.getElem_mem hjl)
          have hcs := cntR_succ roads hjl ex hab
          obtain ⟨bd, rfl, hbd', hcell⟩ := HR0.out.2 (by omega)
          have hg0 := flatMap_get roadV 3 (fun _ => rfl) roads (j * 3) (by omega)
          have hg1 := flatMap_get roadV 3 (fun _ => rfl) roads (j * 3 + 1) (by omega)
          have hg2 := flatMap_get roadV 3 (fun _ => rfl) roads (j * 3 + 2) (by omega)
          rw [show j * 3 / 3 = j by omega, show j * 3 % 3 = 0 by omega, getElem!_pos roads j hjl, ex] at hg0
          rw [show (j * 3 + 1) / 3 = j by omega, show (j * 3 + 1) % 3 = 1 by omega, getElem!_pos roads j hjl, ex] at hg1
          rw [show (j * 3 + 2) / 3 = j by omega, show (j * 3 + 2) % 3 = 2 by omega, getElem!_pos roads j hjl, ex] at hg2
          have hbw := HB1.out.trans (HC.out.below.mono HB1.out.size)
          have hc0 := (hbw.cell (p := bd.add (j * 3)) (by rw [block_of_add]; exact hbd')).trans (hcell _ _ hg0)
          have hc1 := (hbw.cell (p := bd.add (j * 3 + 1)) (by rw [block_of_add]; exact hbd')).trans (hcell _ _ hg1)
          have hc2 := (hbw.cell (p := bd.add (j * 3 + 2)) (by rw [block_of_add]; exact hbd')).trans (hcell _ _ hg2)
          simp only [roadV, List.getElem!_cons_zero, List.getElem!_cons_succ] at hc0 hc1 hc2
          rw [add_nextP bd (j * 3) 0] at hc1
          rw [add_nextP bd (j * 3) 1] at hc2
          have hC1 := HC.out.alloc (.cells #[.int .i64 (a : Int), .int .i64 (b : Int), .int .i64 l] 43)
          have hxb := Blk.new wr 43 #[.int .i64 (a : Int), .int .i64 (b : Int), .int .i64 l]
          have qd := distP_any _ _ a b (wr.alloc (.cells #[.int .i64 (a : Int), .int .i64 (b : Int), .int .i64 l] 43)) (HO.out.below hC1.below) HGO.out
          rw [hd] at qd
          have HNB := Lib.hid (decide_eq_true hnb); have HNA := Lib.hid (decide_eq_true hna)
          have HC1 := Lib.hid hC1; have HXB := Lib.hid hxb; have HCS := Lib.hid hcs
          clear hg0 hg1 hg2 hcell hbw hC1 hxb hnb hna hd ex hcs
          go_wp2_with fail
          refine qd.mono ?_
          rintro e w2 ⟨rfl, hb2⟩
          have hx2 := HXB.out.below hb2 HXB.out.lt
          have hC2 := HC1.out.later hb2
          have x0 := hx2.drew.cell 0; have x1 := hx2.drew.cell 1; have x2 := hx2.drew.cell 2
          simp only [List.getElem?_toArray, List.getElem?_cons_zero, List.getElem?_cons_succ] at x0 x1 x2
          have hnd : decide (l < p) = false := decide_eq_false (by omega)
          have hB2 : Below w1.heap.size w1 w2.drew := hC2.below.drew
          have hC2d := hC2.later (Below.refl _ w2).drew
          have hx2d := hx2.drew
          have HB2 := Lib.hid hB2; have HC2 := Lib.hid hC2d; have HX2 := Lib.hid hx2d
          clear hx2 hC2 hB2 hC2d hx2d hb2 qd hc0 hc1 hc2
          have haI : (a : Int) < (M.n : Int) := by omega
          have hbI : (b : Int) < (M.n : Int) := by omega
          obtain ⟨fa, hfa⟩ : ∃ fa, cntR roads j a = fa := ⟨_, rfl⟩
          obtain ⟨fb, hfb⟩ : ∃ fb, cntR roads j b = fb := ⟨_, rfl⟩
          have hfa1 := cntR_le roads j a
          have hfb1 := cntR_le roads j b
          rw [hfa, HRL.out] at hfa1
          rw [hfb, HRL.out] at hfb1
          have HFA := Lib.hid hfa; have HFB := Lib.hid hfb
          clear hfa hfb
          go_wp2_with fail
          refine wp_region_held_drew (S := (fun w' => w'.cell? ⟨wr.heap.size, 0, none⟩ = some (.int .i64 (a : Int)) ∧ w'.cell? ⟨wr.heap.size, 1, none⟩ = some (.int .i64 (b : Int)) ∧ w'.cell? ⟨wr.heap.size, 2, none⟩ = some (.int .i64 l))) (by kernel_rfl) ?_ (fun hHeld => ?_)
          · (try dsimp only)
            (first | exact ⟨x0, x1, x2⟩ | exact ⟨y0, y1, y2⟩ | exact ⟨z0, z1, z2⟩)
          refine wpAnyH_take (i := 0) (v := ?_) rfl (by kernel_rfl) (by kernel_rfl) (by kernel_rfl) (fun _ _ _ h => h) (Or.inl ⟨by rfl, ?_⟩) (by assumption) ?_
          rotate_left
          · intro w hSw
            (try dsimp only at hSw)
            go_simp <;> with_reducible rfl
          try simp only [Act.put, List.getElem_toArray, List.getElem_cons_succ, List.getElem_cons_zero, List.setIfInBounds_toArray, List.set_cons_zero, List.set_cons_succ]
          refine wpAnyH_take (i := 1) (v := ?_) rfl (by kernel_rfl) (by kernel_rfl) (by kernel_rfl) (fun _ _ _ h => h) (Or.inl ⟨by rfl, ?_⟩) (by assumption) ?_
          rotate_left
          · intro w hSw
            (try dsimp only at hSw)
            go_simp <;> with_reducible rfl
          try simp only [Act.put, List.getElem_toArray, List.getElem_cons_succ, List.getElem_cons_zero, List.setIfInBounds_toArray, List.set_cons_zero, List.set_cons_succ]
          refine wpAnyH_take (i := 2) (v := ?_) rfl (by kernel_rfl) (by kernel_rfl) (by kernel_rfl) (fun _ _ _ h => h) (Or.inl ⟨by rfl, ?_⟩) (by assumption) ?_
          rotate_left
          · intro w hSw
            (try dsimp only at hSw)
            go_simp <;> with_reducible rfl
          try simp only [Act.put, List.getElem_toArray, List.getElem_cons_succ, List.getElem_cons_zero, List.setIfInBounds_toArray, List.set_cons_zero, List.set_cons_succ]
          refine wpAnyH_take (i := 3) (v := ?_) rfl (by kernel_rfl) (by kernel_rfl) (by kernel_rfl) (fun _ _ _ h => h) (Or.inl ⟨by rfl, ?_⟩) (by assumption) ?_
          rotate_left
          · intro w hSw
            (try dsimp only at hSw)
            go_simp <;> with_reducible rfl
          try simp only [Act.put, List.getElem_toArray, List.getElem_cons_succ, List.getElem_cons_zero, List.setIfInBounds_toArray, List.set_cons_zero, List.set_cons_succ]
          refine wpAnyH_take (i := 4) (v := ?_) rfl (by kernel_rfl) (by kernel_rfl) (by kernel_rfl) (fun _ _ _ h => h) (Or.inl ⟨by rfl, ?_⟩) (by assumption) ?_
          rotate_left
          · intro w hSw
            (try dsimp only at hSw)
            go_simp <;> with_reducible rfl
          try simp only [Act.put, List.getElem_toArray, List.getElem_cons_succ, List.getElem_cons_zero, List.setIfInBounds_toArray, List.set_cons_zero, List.set_cons_succ]
          refine wpAnyH_take (i := 5) (v := ?_) rfl (by kernel_rfl) (by kernel_rfl) (by kernel_rfl) (fun _ _ _ h => h) (Or.inl ⟨by rfl, ?_⟩) (by assumption) ?_
          rotate_left
          · intro w hSw
            (try dsimp only at hSw)
            go_simp <;> with_reducible rfl
          try simp only [Act.put, List.getElem_toArray, List.getElem_cons_succ, List.getElem_cons_zero, List.setIfInBounds_toArray, List.set_cons_zero, List.set_cons_succ]
          refine wpAnyH_take (i := 6) (v := ?_) rfl (by kernel_rfl) (by kernel_rfl) (by kernel_rfl) (fun _ _ _ h => h) (Or.inl ⟨by rfl, ?_⟩) (by assumption) ?_
          rotate_left
          · intro w hSw
            (try dsimp only at hSw)
            go_simp <;> with_reducible rfl
          try simp only [Act.put, List.getElem_toArray, List.getElem_cons_succ, List.getElem_cons_zero, List.setIfInBounds_toArray, List.set_cons_zero, List.set_cons_succ]
          refine wpAnyH_take (i := 7) (v := ?_) rfl (by kernel_rfl) (by kernel_rfl) (by kernel_rfl) (fun _ _ _ h => h) (Or.inl ⟨by rfl, ?_⟩) (by assumption) ?_
          rotate_left
          · intro w hSw
            (try dsimp only at hSw)
            go_simp <;> with_reducible rfl
          try simp only [Act.put, List.getElem_toArray, List.getElem_cons_succ, List.getElem_cons_zero, List.setIfInBounds_toArray, List.set_cons_zero, List.set_cons_succ]
          refine wpAnyH_take (i := 8) (v := ?_) rfl (by kernel_rfl) (by kernel_rfl) (by kernel_rfl) (fun _ _ _ h => h) (Or.inl ⟨by rfl, ?_⟩) (by assumption) ?_
          rotate_left
          · intro w hSw
            (try dsimp only at hSw)
            go_simp <;> with_reducible rfl
          try simp only [Act.put, List.getElem_toArray, List.getElem_cons_succ, List.getElem_cons_zero, List.setIfInBounds_toArray, List.set_cons_zero, List.set_cons_succ]
          refine wpAnyH_take (i := 9) (v := ?_) rfl (by kernel_rfl) (by kernel_rfl) (by kernel_rfl) (fun _ _ _ h => h) (Or.inl ⟨by rfl, ?_⟩) (by assumption) ?_
          rotate_left
          · intro w hSw
            (try dsimp only at hSw)
            go_simp <;> with_reducible rfl
          try simp only [Act.put, List.getElem_toArray, List.getElem_cons_succ, List.getElem_cons_zero, List.setIfInBounds_toArray, List.set_cons_zero, List.set_cons_succ]
          refine wpAnyH_take (i := 10) (v := ?_) rfl (by kernel_rfl) (by kernel_rfl) (by kernel_rfl) (fun _ _ _ h => h) (Or.inl ⟨by rfl, ?_⟩) (by assumption) ?_
          rotate_left
          · intro w hSw
            (try dsimp only at hSw)
            go_simp <;> with_reducible rfl
          try simp only [Act.put, List.getElem_toArray, List.getElem_cons_succ, List.getElem_cons_zero, List.setIfInBounds_toArray, List.set_cons_zero, List.set_cons_succ]
          refine wpAnyH_take (i := 11) (v := ?_) rfl (by kernel_rfl) (by kernel_rfl) (by kernel_rfl) (fun _ _ _ h => h) (Or.inl ⟨by rfl, ?_⟩) (by assumption) ?_
          rotate_left
          · intro w hSw
            (try dsimp only at hSw)
            go_simp <;> with_reducible rfl
          try simp only [Act.put, List.getElem_toArray, List.getElem_cons_succ, List.getElem_cons_zero, List.setIfInBounds_toArray, List.set_cons_zero, List.set_cons_succ]
          refine wpAnyH_take (i := 13) (v := ?_) rfl (by kernel_rfl) (by kernel_rfl) (by kernel_rfl) (fun _ _ _ h => h) (Or.inl ⟨by rfl, ?_⟩) (by assumption) ?_
          rotate_left
          · intro w hSw
            (try dsimp only at hSw)
            go_simp <;> with_reducible rfl
          try simp only [Act.put, List.getElem_toArray, List.getElem_cons_succ, List.getElem_cons_zero, List.setIfInBounds_toArray, List.set_cons_zero, List.set_cons_succ]
          refine wpAnyH_take (i := 14) (v := ?_) rfl (by kernel_rfl) (by kernel_rfl) (by kernel_rfl) (fun _ _ _ h => h) (Or.inl ⟨by rfl, ?_⟩) (by assumption) ?_
          rotate_left
          · intro w hSw
            (try dsimp only at hSw)
            go_simp <;> with_reducible rfl
          try simp only [Act.put, List.getElem_toArray, List.getElem_cons_succ, List.getElem_cons_zero, List.setIfInBounds_toArray, List.set_cons_zero, List.set_cons_succ]
          refine wpAnyH_ready (rs := [12]) (by kernel_rfl) (by simp) ?_
          refine AllReadyH.cons rfl (fun K hK => ?_) AllReadyH.nil
          go_simp
          (try go_wp2_with fail)
          refine (HNEAR.out _ HB2.out a).mono ?_
          rintro e w3 ⟨A3, c3, rfl, hr3, hm3, hb3⟩
          have hC3 := HC2.out.later hb3
          have hx3 := HX2.out.below hb3 HX2.out.lt
          have y0 := hx3.cell 0; have y1 := hx3.cell 1; have y2 := hx3.cell 2
          simp only [List.getElem?_toArray, List.getElem?_cons_zero, List.getElem?_cons_succ] at y0 y1 y2
          have HR3 := Lib.hid hr3; have HM3 := Lib.hid hm3; have HC3 := Lib.hid hC3; have HX3 := Lib.hid hx3
          clear hr3 hm3 hb3 hC3 hx3
          (try go_simp)
          refine hK.out _ _ ?_ (fun hHeld' => ?_)
          · (try dsimp only)
            (first | exact ⟨x0, x1, x2⟩ | exact ⟨y0, y1, y2⟩ | exact ⟨z0, z1, z2⟩)
          clear hK K hHeld
          have hHeld := hHeld'
          clear hHeld'
          refine wpAnyH_ready (rs := [15]) (by kernel_rfl) (by simp) ?_
          refine AllReadyH.cons rfl (fun K hK => ?_) AllReadyH.nil
          go_simp
          (try go_wp2_with fail)
          refine (hasL_any _ _ _ (b : Int) _ _ HR3.out HM3.out).mono ?_
          rw [HNB.out]
          rintro e w' ⟨rfl, rfl⟩
          (try go_simp)
          refine hK.out _ _ ?_ (fun hHeld' => ?_)
          · (try dsimp only)
            (first | exact ⟨x0, x1, x2⟩ | exact ⟨y0, y1, y2⟩ | exact ⟨z0, z1, z2⟩)
          clear hK K hHeld
          have hHeld := hHeld'
          clear hHeld'
          refine wpAnyH_take (i := 16) (v := ?_) rfl (by kernel_rfl) (by kernel_rfl) (by kernel_rfl) (fun _ _ _ h => h) (Or.inl ⟨by rfl, ?_⟩) (by assumption) ?_
          rotate_left
          · intro w hSw
            (try dsimp only at hSw)
            go_simp <;> with_reducible rfl
          try simp only [Act.put, List.getElem_toArray, List.getElem_cons_succ, List.getElem_cons_zero, List.setIfInBounds_toArray, List.set_cons_zero, List.set_cons_succ]
          refine wpAnyH_take (i := 17) (v := ?_) rfl (by kernel_rfl) (by kernel_rfl) (by kernel_rfl) (fun _ _ _ h => h) (Or.inl ⟨by rfl, ?_⟩) (by assumption) ?_
          rotate_left
          · intro w hSw
            (try dsimp only at hSw)
            go_simp <;> with_reducible rfl
          try simp only [Act.put, List.getElem_toArray, List.getElem_cons_succ, List.getElem_cons_zero, List.setIfInBounds_toArray, List.set_cons_zero, List.set_cons_succ]
          refine wpAnyH_take (i := 18) (v := ?_) rfl (by kernel_rfl) (by kernel_rfl) (by kernel_rfl) (fun _ _ _ h => h) (Or.inl ⟨by rfl, ?_⟩) (by assumption) ?_
          rotate_left
          · intro w hSw
            (try dsimp only at hSw)
            go_simp <;> with_reducible rfl
          try simp only [Act.put, List.getElem_toArray, List.getElem_cons_succ, List.getElem_cons_zero, List.setIfInBounds_toArray, List.set_cons_zero, List.set_cons_succ]
          refine wpAnyH_take (i := 19) (v := ?_) rfl (by kernel_rfl) (by kernel_rfl) (by kernel_rfl) (fun _ _ _ h => h) (Or.inl ⟨by rfl, ?_⟩) (by assumption) ?_
          rotate_left
          · intro w hSw
            (try dsimp only at hSw)
            go_simp <;> with_reducible rfl
          try simp only [Act.put, List.getElem_toArray, List.getElem_cons_succ, List.getElem_cons_zero, List.setIfInBounds_toArray, List.set_cons_zero, List.set_cons_succ]
          refine wpAnyH_take (i := 20) (v := ?_) rfl (by kernel_rfl) (by kernel_rfl) (by kernel_rfl) (fun _ _ _ h => h) (Or.inl ⟨by rfl, ?_⟩) (by assumption) ?_
          rotate_left
          · intro w hSw
            (try dsimp only at hSw)
            go_simp <;> with_reducible rfl
          try simp only [Act.put, List.getElem_toArray, List.getElem_cons_succ, List.getElem_cons_zero, List.setIfInBounds_toArray, List.set_cons_zero, List.set_cons_succ]
          refine wpAnyH_take (i := 21) (v := ?_) rfl (by kernel_rfl) (by kernel_rfl) (by kernel_rfl) (fun _ _ _ h => h) (Or.inl ⟨by rfl, ?_⟩) (by assumption) ?_
          rotate_left
          · intro w hSw
            (try dsimp only at hSw)
            go_simp <;> with_reducible rfl
          try simp only [Act.put, List.getElem_toArray, List.getElem_cons_succ, List.getElem_cons_zero, List.setIfInBounds_toArray, List.set_cons_zero, List.set_cons_succ]
          refine wpAnyH_take (i := 23) (v := ?_) rfl (by kernel_rfl) (by kernel_rfl) (by kernel_rfl) (fun _ _ _ h => h) (Or.inl ⟨by rfl, ?_⟩) (by assumption) ?_
          rotate_left
          · intro w hSw
            (try dsimp only at hSw)
            go_simp <;> with_reducible rfl
          try simp only [Act.put, List.getElem_toArray, List.getElem_cons_succ, List.getElem_cons_zero, List.setIfInBounds_toArray, List.set_cons_zero, List.set_cons_succ]
          refine wpAnyH_take (i := 24) (v := ?_) rfl (by kernel_rfl) (by kernel_rfl) (by kernel_rfl) (fun _ _ _ h => h) (Or.inl ⟨by rfl, ?_⟩) (by assumption) ?_
          rotate_left
          · intro w hSw
            (try dsimp only at hSw)
            go_simp <;> with_reducible rfl
          try simp only [Act.put, List.getElem_toArray, List.getElem_cons_succ, List.getElem_cons_zero, List.setIfInBounds_toArray, List.set_cons_zero, List.set_cons_succ]
          refine wpAnyH_ready (rs := [22]) (by kernel_rfl) (by simp) ?_
          refine AllReadyH.cons rfl (fun K hK => ?_) AllReadyH.nil
          go_simp
          (try go_wp2_with fail)
          refine (HNEAR.out _ HC3.out.below b).mono ?_
          rintro e w4 ⟨A4, c4, rfl, hr4, hm4, hb4⟩
          have hC4 := HC3.out.later hb4
          have hx4 := HX3.out.below hb4 HX3.out.lt
          have z0 := hx4.cell 0; have z1 := hx4.cell 1; have z2 := hx4.cell 2
          simp only [List.getElem?_toArray, List.getElem?_cons_zero, List.getElem?_cons_succ] at z0 z1 z2
          have HR4 := Lib.hid hr4; have HM4 := Lib.hid hm4; have HC4 := Lib.hid hC4; have HX4 := Lib.hid hx4
          clear hr4 hm4 hb4 hC4 hx4
          (try go_simp)
          refine hK.out _ _ ?_ (fun hHeld' => ?_)
          · (try dsimp only)
            (first | exact ⟨x0, x1, x2⟩ | exact ⟨y0, y1, y2⟩ | exact ⟨z0, z1, z2⟩)
          clear hK K hHeld
          have hHeld := hHeld'
          clear hHeld'
          refine wpAnyH_ready (rs := [25]) (by kernel_rfl) (by simp) ?_
          refine AllReadyH.cons rfl (fun K hK => ?_) AllReadyH.nil
          go_simp
          (try go_wp2_with fail)
          refine (hasL_any _ _ _ (a : Int) _ _ HR4.out HM4.out).mono ?_
          rw [HNA.out]
          rintro e w' ⟨rfl, rfl⟩
          (try go_simp)
          refine hK.out _ _ ?_ (fun hHeld' => ?_)
          · (try dsimp only)
            (first | exact ⟨x0, x1, x2⟩ | exact ⟨y0, y1, y2⟩ | exact ⟨z0, z1, z2⟩)
          clear hK K hHeld
          have hHeld := hHeld'
          clear hHeld'
          refine wpAnyH_take (i := 26) (v := ?_) rfl (by kernel_rfl) (by kernel_rfl) (by kernel_rfl) (fun _ _ _ h => h) (Or.inl ⟨by rfl, ?_⟩) (by assumption) ?_
          rotate_left
          · intro w hSw
            (try dsimp only at hSw)
            go_simp <;> with_reducible rfl
          try simp only [Act.put, List.getElem_toArray, List.getElem_cons_succ, List.getElem_cons_zero, List.setIfInBounds_toArray, List.set_cons_zero, List.set_cons_succ]
          refine wpAnyH_take (i := 27) (v := ?_) rfl (by kernel_rfl) (by kernel_rfl) (by kernel_rfl) (fun _ _ _ h => h) (Or.inl ⟨by rfl, ?_⟩) (by assumption) ?_
          rotate_left
          · intro w hSw
            (try dsimp only at hSw)
            go_simp <;> with_reducible rfl
          try simp only [Act.put, List.getElem_toArray, List.getElem_cons_succ, List.getElem_cons_zero, List.setIfInBounds_toArray, List.set_cons_zero, List.set_cons_succ]
          refine wpAnyH_done (by kernel_rfl) ?_ _
          have c0 := HC4.out.cell ha
          have hC5 := HC4.out.set_ ha (fa + 1)
          have hne : wr.heap.size ≠ w1.heap.size := fun e => by have := HC.out.row.lt; omega
          have hx5 := HX4.out.far (p := ⟨w1.heap.size, a, none⟩) hne (.int .i64 (fa + 1))
          have d0 := hx5.cell 1
          simp only [List.getElem?_toArray, List.getElem?_cons_zero, List.getElem?_cons_succ] at d0
          have d1 := hC5.cell hb
          rw [setF_other (Ne.symm hab), HFB.out] at d1
          rw [HFA.out] at c0
          have hC6 := hC5.set_ hb (fb + 1)
          have hz0 := HC4.out.row.frozen a
          have hz1 := hC5.row.frozen b
          have hfin : CntM 3 w1 ((w4.setCell ⟨w1.heap.size, a, none⟩ (.int .i64 (fa + 1))).setCell ⟨w1.heap.size, b, none⟩ (.int .i64 (fb + 1))) w1.heap.size M.n (cntR roads (j + 1)) := by
            rw [← HCS.out, HFA.out, HFB.out]; exact hC6
          have HFIN := Lib.hid hfin
          clear hC5 hC6 hx5 hfin hHeld
          go_wp2
          go_roundw
          case rel => exact ⟨j + 1, by omega, by go_num, HFIN.out⟩
          case measure => simp [intOf]; omega
        · obtain rfl : j = m := by omega
          have hcnt : ∀ x, x < M.n → (((nearL (some M) x).length : Nat) : Int) = cntR roads j x := fun x hx => by
            rw [near_count HE.out HMM.out hx, HRL.out]
          have HCNT := Lib.hid hcnt
          clear hcnt
          go_wp2_with fail
          go_loopw [10] (fun i wr => ∃ x : Nat, x ≤ M.n ∧ i = .int .i64 x ∧ CntM 3 w1 wr w1.heap.size M.n (cntR roads j)) (fun i _ => M.n - (intOf i).toNat)
          case atStart => exact ⟨0, by omega, rfl, HC.out⟩
          case round =>
            obtain ⟨x, hx, rfl, hC⟩ := hrel
            have HC2 := Lib.hid hC
            clear hC
            by_cases hlt2 : x < M.n
            · have hxI : (x : Int) < (M.n : Int) := by omega
              have hc := HCNT.out x hlt2
              obtain ⟨fx, hfx⟩ : ∃ fx, cntR roads j x = fx := ⟨_, rfl⟩
              have hC3 := HC2.out.later (Below.refl _ wr).drew
              have x0 := hC3.cell hlt2
              rw [hfx] at x0 hc
              have HC3 := Lib.hid hC3; have HHC := Lib.hid hc
              clear hC3 hfx hc
              go_wp2_with fail
              refine wp_region_held_drew (S := (fun w' => w'.cell? ⟨w1.heap.size, x, none⟩ = some (.int .i64 fx))) (by kernel_rfl) ?_ (fun hHeld => ?_)
              · (try dsimp only)
                (first | exact x0 | exact y0)
              refine wpAnyH_take (i := 0) (v := ?_) rfl (by kernel_rfl) (by kernel_rfl) (by kernel_rfl) (fun _ _ _ h => h) (Or.inl ⟨by rfl, ?_⟩) (by assumption) ?_
              rotate_left
              · intro w hSw
                (try dsimp only at hSw)
                go_simp <;> with_reducible rfl
              try simp only [Act.put, List.getElem_toArray, List.getElem_cons_succ, List.getElem_cons_zero, List.setIfInBounds_toArray, List.set_cons_zero, List.set_cons_succ]
              refine wpAnyH_take (i := 1) (v := ?_) rfl (by kernel_rfl) (by kernel_rfl) (by kernel_rfl) (fun _ _ _ h => h) (Or.inl ⟨by rfl, ?_⟩) (by assumption) ?_
              rotate_left
              · intro w hSw
                (try dsimp only at hSw)
                go_simp <;> with_reducible rfl
              try simp only [Act.put, List.getElem_toArray, List.getElem_cons_succ, List.getElem_cons_zero, List.setIfInBounds_toArray, List.set_cons_zero, List.set_cons_succ]
              refine wpAnyH_take (i := 4) (v := ?_) rfl (by kernel_rfl) (by kernel_rfl) (by kernel_rfl) (fun _ _ _ h => h) (Or.inl ⟨by rfl, ?_⟩) (by assumption) ?_
              rotate_left
              · intro w hSw
                (try dsimp only at hSw)
                go_simp <;> with_reducible rfl
              try simp only [Act.put, List.getElem_toArray, List.getElem_cons_succ, List.getElem_cons_zero, List.setIfInBounds_toArray, List.set_cons_zero, List.set_cons_succ]
              refine wpAnyH_take (i := 5) (v := ?_) rfl (by kernel_rfl) (by kernel_rfl) (by kernel_rfl) (fun _ _ _ h => h) (Or.inl ⟨by rfl, ?_⟩) (by assumption) ?_
              rotate_left
              · intro w hSw
                (try dsimp only at hSw)
                go_simp <;> with_reducible rfl
              try simp only [Act.put, List.getElem_toArray, List.getElem_cons_succ, List.getElem_cons_zero, List.setIfInBounds_toArray, List.set_cons_zero, List.set_cons_succ]
              refine wpAnyH_take (i := 6) (v := ?_) rfl (by kernel_rfl) (by kernel_rfl) (by kernel_rfl) (fun _ _ _ h => h) (Or.inl ⟨by rfl, ?_⟩) (by assumption) ?_
              rotate_left
              · intro w hSw
                (try dsimp only at hSw)
                go_simp <;> with_reducible rfl
              try simp only [Act.put, List.getElem_toArray, List.getElem_cons_succ, List.getElem_cons_zero, List.setIfInBounds_toArray, List.set_cons_zero, List.set_cons_succ]
              refine wpAnyH_take (i := 7) (v := ?_) rfl (by kernel_rfl) (by kernel_rfl) (by kernel_rfl) (fun _ _ _ h => h) (Or.inl ⟨by rfl, ?_⟩) (by assumption) ?_
              rotate_left
              · intro w hSw
                (try dsimp only at hSw)
                go_simp <;> with_reducible rfl
              try simp only [Act.put, List.getElem_toArray, List.getElem_cons_succ, List.getElem_cons_zero, List.setIfInBounds_toArray, List.set_cons_zero, List.set_cons_succ]
              refine wpAnyH_ready (rs := [2]) (by kernel_rfl) (by simp) ?_
              refine AllReadyH.cons rfl (fun K hK => ?_) AllReadyH.nil
              go_simp
              (try go_wp2_with fail)
              refine (HNEAR.out _ HC3.out.below x).mono ?_
              rintro e w3 ⟨A3, c3, rfl, hr3, hm3, hb3⟩
              have hC4 := HC3.out.later hb3
              have y0 := (hb3.cell (p := ⟨w1.heap.size, x, none⟩) HC3.out.row.lt).trans x0
              have hc := HHC.out
              have HC4 := Lib.hid hC4
              generalize (nearL (some M) (x : Int)).length = nl at hc hm3
              clear hr3 hm3 hb3 hC4 HHC
              (try go_simp)
              refine hK.out _ _ ?_ (fun hHeld' => ?_)
              · (try dsimp only)
                (first | exact x0 | exact y0)
              clear hK K hHeld
              have hHeld := hHeld'
              clear hHeld'
              refine wpAnyH_take (i := 3) (v := ?_) rfl (by kernel_rfl) (by kernel_rfl) (by kernel_rfl) (fun _ _ _ h => h) (Or.inl ⟨by rfl, ?_⟩) (by assumption) ?_
              rotate_left
              · intro w hSw
                (try dsimp only at hSw)
                go_simp <;> with_reducible rfl
              try simp only [Act.put, List.getElem_toArray, List.getElem_cons_succ, List.getElem_cons_zero, List.setIfInBounds_toArray, List.set_cons_zero, List.set_cons_succ]
              refine wpAnyH_take (i := 8) (v := ?_) rfl (by kernel_rfl) (by kernel_rfl) (by kernel_rfl) (fun _ _ _ h => h) (Or.inl ⟨by rfl, ?_⟩) (by assumption) ?_
              rotate_left
              · intro w hSw
                (try dsimp only at hSw)
                go_simp <;> with_reducible rfl
              try simp only [Act.put, List.getElem_toArray, List.getElem_cons_succ, List.getElem_cons_zero, List.setIfInBounds_toArray, List.set_cons_zero, List.set_cons_succ]
              refine wpAnyH_done (by kernel_rfl) ?_ _
              clear hHeld
              subst hc
              go_wp2
              go_roundw
              case rel => exact ⟨x + 1, by omega, by go_num, HC4.out⟩
              case measure => simp [intOf]; omega
            · obtain rfl : x = M.n := by omega
              have HB2 := Lib.hid (HB1.out.trans (HC2.out.below.mono HB1.out.size))
              go_wp2_with fail
              refine (HWK.out _).mono ?_
              rintro e w2 ⟨rfl, hb2⟩
              go_wp2
              go_ret
              exact ⟨rfl, HB2.out.trans (hb2.mono HB2.out.size)⟩
  · obtain rfl := hbad hE
    have hEI : ¬ (newE names roads = 0) := hE
    generalize newE names roads = E at hEI
    clear hbad hgood hE
    cases fw
    · go_wp2_with fail
      refine hf.mono ?_
      rintro e w' ⟨rfl, rfl⟩
      go_wp2_with fail
      refine (HWK.out _).mono ?_
      rintro e w2 ⟨rfl, hb2⟩
      go_wp2
      go_ret
      exact ⟨rfl, HB1.out.trans (hb2.mono HB1.out.size)⟩
    · go_wp2_with fail
      refine hf.mono ?_
      rintro e w' ⟨rfl, rfl⟩
      go_wp2_with fail
      refine (HWK.out _).mono ?_
      rintro e w2 ⟨rfl, hb2⟩
      go_wp2
      go_ret
      exact ⟨rfl, HB1.out.trans (hb2.mono HB1.out.size)⟩
end Go.Proofs.YtdelkgfodeilkaaDoor

