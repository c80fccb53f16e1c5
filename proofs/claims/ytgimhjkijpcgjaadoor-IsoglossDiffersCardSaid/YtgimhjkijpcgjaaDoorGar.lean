/-
  layer 37: Compact of the program and of the reference. Conditions: a map of New, or nil; lists that are read.
-/
import Derived.Test.YtgimhjkijpcgjaaDoorGaq
import Derived.Test.YtgimhjkijpcgjaaDoorGap
import Derived.Test.YtgimhjkijpcgjaaDoorGak
import Derived.Test.YtgimhjkijpcgjaaDoorGai
import Derived.Test.YtgimhjkijpcgjaaDoorGag
namespace Go.Proofs.YtgimhjkijpcgjaaDoor
open Go.RowKit Go.Lib

def cmpE (om : Option Pts) (vs : List Int) : Int := chkN (lenO om) [vs]
def cmpA (om : Option Pts) (vs : List Int) : Value := if chkN (lenO om) [vs] = 0 then (if (roadsO om).length = 0 then .agg #[.int .i64 1, .int .i64 1] else fracA ((roadsO om).length - (cutsL (roadsO om) vs).length) (roadsO om).length) else fracZ
set_option maxRecDepth 20000 in
set_option maxHeartbeats 4000000 in
theorem compactP_any (p : Option Addr) (om : Option Pts) (A : Option Addr) (n c : Nat) (vs : List Int) (w : World) (h : MapO w p om) (hG : NewO om) (hv : ReadI w w.heap.size A n vs) (hn : n ≤ c) (hc : c ≤ maxLen) :
    Calls Tryd.prog 19 #[.pointer p, .slice A n c] w (FracE w (cmpA om vs) (cmpE om vs)) := by
  have hz := Blk.new w 37 #[.int .i64 0, .int .i64 0]
  have hbz := (Below.refl _ w).alloc (Nat.le_refl _) (.cells #[.int .i64 0, .int .i64 0] 37)
  have hcu := cutsP_any p om A n c vs _ (h.below hbz) hG (hv.later hbz) hn hc
  have hrd := fun W (hW : Below w.heap.size w W) => roadsP_any p om W (h.below hW) (Nat.le_trans hG.roads (by decide))
  have h512 := hG.roads
  have HZ := Lib.hid hz; have HBZ := Lib.hid hbz; have HRD := Lib.hid hrd
  clear h hG hv hz hbz hrd
  unfold FracE cmpA cmpE
  unfold GivesE cutsV at hcu
  generalize chkN (lenO om) [vs] = E at *
  generalize roadsO om = R at *
  have hcl : (cutsL R vs).length ≤ R.length := cutsL_take R vs R.length
  generalize cutsL R vs = CL at *
  by_cases h0 : E = 0
  · subst h0
    rw [if_pos rfl] at hcu ⊢
    have hil : (intsL CL).length = CL.length := List.length_map _
    rw [hil] at hcu
    generalize CL.length = k at *
    have h00 : ((0 : Int) != 0) = false := by simp
    by_cases hR : R.length = 0
    · rw [if_pos hR]
      have hRI : (R.length : Int) = 0 := by omega
      go_enter Tryd.func19, Tryd.ntmps19
      go_wp2_with fail
      refine hcu.mono ?_
      rintro e w1 ⟨v, rfl, ho, hb1⟩
      obtain ⟨A1, c1, rfl, _, _⟩ := ownsRow_form ho
      have hB1 := HBZ.out.trans (hb1.mono HBZ.out.size)
      have hr := HRD.out w1 hB1
      have HB1 := Lib.hid hB1; have HK1 := Lib.hid (HZ.out.below hb1 HZ.out.lt)
      clear ho hb1 hB1 hcu
      go_wp2_with fail
      refine hr.mono ?_
      rintro e w2 ⟨vR, rfl, hoR, hb2⟩
      obtain ⟨AR, cR, rfl, _, _⟩ := ownsRow_form hoR
      have HB2 := Lib.hid (HB1.out.trans (hb2.mono HB1.out.size)); have HK2 := Lib.hid (HK1.out.below hb2 HK1.out.lt)
      clear hoR hb2 hr
      rw [hR]
      have c0 := HK2.out.cell 0
      have c1 := HK2.out.cell 1
      have f0 := HK2.out.frozen 0
      have f1 := HK2.out.frozen 1
      simp only [List.getElem?_toArray, List.getElem?_cons_zero, List.getElem?_cons_succ] at c0 c1
      go_wp2
      have k1 : Blk _ w.heap.size 37 #[.int .i64 1, .int .i64 1] := (HK2.out.set_ 0 (.int .i64 1)).set_ 1 (.int .i64 1)
      refine bodyPost_ret (frac_ret2 rfl _ _ w.heap.size _ (by simp) k1) rfl ?_
      exact ⟨rfl, ((HB2.out.setCell (p := ⟨w.heap.size, 0, none⟩) (Nat.le_refl _) _).setCell (p := ⟨w.heap.size, 1, none⟩) (Nat.le_refl _) _)⟩
    · rw [if_neg hR]
      have hRI : ¬ (R.length : Int) = 0 := by omega
      have hRB : ((R.length : Int) == 0) = false := beq_false_of_ne hRI
      generalize hrr : R.length = r at *
      have hlo := fun W => lowest_any (r - k) r W (by omega) (by omega) (by omega)
      have hwr : (r : Int) - (k : Int) = ((r - k : Nat) : Int) := by omega
      have HLO := Lib.hid hlo; have HWR := Lib.hid hwr; have HRR := Lib.hid hrr
      clear hlo hwr hrr
      go_enter Tryd.func19, Tryd.ntmps19
      go_wp2_with fail
      refine hcu.mono ?_
      rintro e w1 ⟨v, rfl, ho, hb1⟩
      obtain ⟨A1, c1, rfl, _, _⟩ := ownsRow_form ho
      have hB1 := HBZ.out.trans (hb1.mono HBZ.out.size)
      have hr := HRD.out w1 hB1
      have HB1 := Lib.hid hB1; have HK1 := Lib.hid (HZ.out.below hb1 HZ.out.lt)
      clear ho hb1 hB1 hcu
      go_wp2_with fail
      refine hr.mono ?_
      rintro e w2 ⟨vR, rfl, hoR, hb2⟩
      obtain ⟨AR, cR, rfl, _, _⟩ := ownsRow_form hoR
      have HB2 := Lib.hid (HB1.out.trans (hb2.mono HB1.out.size)); have HK2 := Lib.hid (HK1.out.below hb2 HK1.out.lt)
      clear hoR hb2 hr
      go_wp2_with fail
      rw [HWR.out]
      refine (HLO.out w2).mono ?_
      rintro e w3 ⟨rfl, hb3⟩
      have HB3 := Lib.hid (HB2.out.trans (hb3.mono HB2.out.size)); have HK3 := Lib.hid (HK2.out.below hb3 HK2.out.lt)
      have c0 := HK3.out.cell 0
      have c1 := HK3.out.cell 1
      have f0 := HK3.out.frozen 0
      have f1 := HK3.out.frozen 1
      simp only [List.getElem?_toArray, List.getElem?_cons_zero, List.getElem?_cons_succ] at c0 c1
      clear hb3
      go_wp2
      have k1 : Blk _ w.heap.size 37 #[.int .i64 ((lowN (r - k) r : Nat) : Int), .int .i64 ((lowD (r - k) r : Nat) : Int)] := (HK3.out.set_ 0 (.int .i64 ((lowN (r - k) r : Nat) : Int))).set_ 1 (.int .i64 ((lowD (r - k) r : Nat) : Int))
      refine bodyPost_ret (frac_ret2 rfl _ _ w.heap.size _ (by simp) k1) rfl ?_
      exact ⟨rfl, ((HB3.out.setCell (p := ⟨w.heap.size, 0, none⟩) (Nat.le_refl _) _).setCell (p := ⟨w.heap.size, 1, none⟩) (Nat.le_refl _) _)⟩
  · rw [if_neg h0] at hcu ⊢
    have h0B : (E != 0) = true := by simp [h0]
    go_enter Tryd.func19, Tryd.ntmps19
    go_wp2_with fail
    refine hcu.mono ?_
    rintro e w1 ⟨v, rfl, ho, hb1⟩
    obtain ⟨A1, c1, rfl, _, _⟩ := ownsRow_form ho
    have hB1 := HBZ.out.trans (hb1.mono HBZ.out.size)
    have hr := HRD.out w1 hB1
    have HB1 := Lib.hid hB1; have HK1 := Lib.hid (HZ.out.below hb1 HZ.out.lt)
    clear ho hb1 hB1 hcu
    go_wp2_with fail
    refine hr.mono ?_
    rintro e w2 ⟨vR, rfl, hoR, hb2⟩
    obtain ⟨AR, cR, rfl, _, _⟩ := ownsRow_form hoR
    have HB2 := Lib.hid (HB1.out.trans (hb2.mono HB1.out.size)); have HK2 := Lib.hid (HK1.out.below hb2 HK1.out.lt)
    clear hoR hb2 hr
    have c0 := HK2.out.cell 0
    have c1 := HK2.out.cell 1
    have f0 := HK2.out.frozen 0
    have f1 := HK2.out.frozen 1
    simp only [List.getElem?_toArray, List.getElem?_cons_zero, List.getElem?_cons_succ] at c0 c1
    have k1 : Blk ((w2.setCell ⟨w.heap.size, 0, none⟩ (.int .i64 0)).setCell ⟨w.heap.size, 1, none⟩ (.int .i64 0)) w.heap.size 37 #[.int .i64 0, .int .i64 0] := (HK2.out.set_ 0 (.int .i64 0)).set_ 1 (.int .i64 0)
    have HKK := Lib.hid k1
    clear k1
    go_wp2
    refine bodyPost_ret (frac_ret2 rfl _ _ w.heap.size _ (by simp) HKK.out) rfl ?_
    exact ⟨rfl, ((HB2.out.setCell (p := ⟨w.heap.size, 0, none⟩) (Nat.le_refl _) _).setCell (p := ⟨w.heap.size, 1, none⟩) (Nat.le_refl _) _)⟩
set_option maxRecDepth 20000 in
set_option maxHeartbeats 4000000 in
theorem refCompact_any (p : Option Addr) (om : Option Pts) (A : Option Addr) (n c : Nat) (vs : List Int) (w : World) (h : RefO w p om) (hG : NewO om) (hv : ReadI w w.heap.size A n vs) (hn : n ≤ c) (hc : c ≤ maxLen) :
    Calls Tryd.prog 20 #[.pointer p, .slice A n c] w (FracE w (cmpA om vs) (cmpE om vs)) := by
  have hz := Blk.new w 37 #[.int .i64 0, .int .i64 0]
  have hbz := (Below.refl _ w).alloc (Nat.le_refl _) (.cells #[.int .i64 0, .int .i64 0] 37)
  have hcu := refCuts_any p om A n c vs _ (h.below hbz) hG (hv.later hbz) hn hc
  have hrd := fun W (hW : Below w.heap.size w W) => refRoads_any p om W (h.below hW) hG.roads
  have h512 := hG.roads
  have HZ := Lib.hid hz; have HBZ := Lib.hid hbz; have HRD := Lib.hid hrd
  clear h hG hv hz hbz hrd
  unfold FracE cmpA cmpE
  unfold GivesE cutsV at hcu
  generalize chkN (lenO om) [vs] = E at *
  generalize roadsO om = R at *
  have hcl : (cutsL R vs).length ≤ R.length := cutsL_take R vs R.length
  generalize cutsL R vs = CL at *
  by_cases h0 : E = 0
  · subst h0
    rw [if_pos rfl] at hcu ⊢
    have hil : (intsL CL).length = CL.length := List.length_map _
    rw [hil] at hcu
    generalize CL.length = k at *
    have h00 : ((0 : Int) != 0) = false := by simp
    by_cases hR : R.length = 0
    · rw [if_pos hR]
      have hRI : (R.length : Int) = 0 := by omega
      go_enter Tryd.func20, Tryd.ntmps20
      go_wp2_with fail
      refine hcu.mono ?_
      rintro e w1 ⟨v, rfl, ho, hb1⟩
      obtain ⟨A1, c1, rfl, _, _⟩ := ownsRow_form ho
      have hB1 := HBZ.out.trans (hb1.mono HBZ.out.size)
      have hr := HRD.out w1 hB1
      have HB1 := Lib.hid hB1; have HK1 := Lib.hid (HZ.out.below hb1 HZ.out.lt)
      clear ho hb1 hB1 hcu
      go_wp2_with fail
      refine hr.mono ?_
      rintro e w2 ⟨vR, rfl, hoR, hb2⟩
      obtain ⟨AR, cR, rfl, _, _⟩ := ownsRow_form hoR
      have HB2 := Lib.hid (HB1.out.trans (hb2.mono HB1.out.size)); have HK2 := Lib.hid (HK1.out.below hb2 HK1.out.lt)
      clear hoR hb2 hr
      rw [hR]
      have c0 := HK2.out.cell 0
      have c1 := HK2.out.cell 1
      have f0 := HK2.out.frozen 0
      have f1 := HK2.out.frozen 1
      simp only [List.getElem?_toArray, List.getElem?_cons_zero, List.getElem?_cons_succ] at c0 c1
      go_wp2
      have k1 : Blk _ w.heap.size 37 #[.int .i64 1, .int .i64 1] := (HK2.out.set_ 0 (.int .i64 1)).set_ 1 (.int .i64 1)
      refine bodyPost_ret (frac_ret2 rfl _ _ w.heap.size _ (by simp) k1) rfl ?_
      exact ⟨rfl, ((HB2.out.setCell (p := ⟨w.heap.size, 0, none⟩) (Nat.le_refl _) _).setCell (p := ⟨w.heap.size, 1, none⟩) (Nat.le_refl _) _)⟩
    · rw [if_neg hR]
      have hRI : ¬ (R.length : Int) = 0 := by omega
      have hRB : ((R.length : Int) == 0) = false := beq_false_of_ne hRI
      generalize hrr : R.length = r at *
      have hlo := fun W => refLowest_any (r - k) r W (by omega) (by omega) (by omega)
      have hwr : (r : Int) - (k : Int) = ((r - k : Nat) : Int) := by omega
      have HLO := Lib.hid hlo; have HWR := Lib.hid hwr; have HRR := Lib.hid hrr
      clear hlo hwr hrr
      go_enter Tryd.func20, Tryd.ntmps20
      go_wp2_with fail
      refine hcu.mono ?_
      rintro e w1 ⟨v, rfl, ho, hb1⟩
      obtain ⟨A1, c1, rfl, _, _⟩ := ownsRow_form ho
      have hB1 := HBZ.out.trans (hb1.mono HBZ.out.size)
      have hr := HRD.out w1 hB1
      have HB1 := Lib.hid hB1; have HK1 := Lib.hid (HZ.out.below hb1 HZ.out.lt)
      clear ho hb1 hB1 hcu
      go_wp2_with fail
      refine hr.mono ?_
      rintro e w2 ⟨vR, rfl, hoR, hb2⟩
      obtain ⟨AR, cR, rfl, _, _⟩ := ownsRow_form hoR
      have HB2 := Lib.hid (HB1.out.trans (hb2.mono HB1.out.size)); have HK2 := Lib.hid (HK1.out.below hb2 HK1.out.lt)
      clear hoR hb2 hr
      go_wp2_with fail
      rw [HWR.out]
      refine (HLO.out w2).mono ?_
      rintro e w3 ⟨rfl, hb3⟩
      have HB3 := Lib.hid (HB2.out.trans (hb3.mono HB2.out.size)); have HK3 := Lib.hid (HK2.out.below hb3 HK2.out.lt)
      have c0 := HK3.out.cell 0
      have c1 := HK3.out.cell 1
      have f0 := HK3.out.frozen 0
      have f1 := HK3.out.frozen 1
      simp only [List.getElem?_toArray, List.getElem?_cons_zero, List.getElem?_cons_succ] at c0 c1
      clear hb3
      go_wp2
      have k1 : Blk _ w.heap.size 37 #[.int .i64 ((lowN (r - k) r : Nat) : Int), .int .i64 ((lowD (r - k) r : Nat) : Int)] := (HK3.out.set_ 0 (.int .i64 ((lowN (r - k) r : Nat) : Int))).set_ 1 (.int .i64 ((lowD (r - k) r : Nat) : Int))
      refine bodyPost_ret (frac_ret2 rfl _ _ w.heap.size _ (by simp) k1) rfl ?_
      exact ⟨rfl, ((HB3.out.setCell (p := ⟨w.heap.size, 0, none⟩) (Nat.le_refl _) _).setCell (p := ⟨w.heap.size, 1, none⟩) (Nat.le_refl _) _)⟩
  · rw [if_neg h0] at hcu ⊢
    have h0B : (E != 0) = true := by simp [h0]
    go_enter Tryd.func20, Tryd.ntmps20
    go_wp2_with fail
    refine hcu.mono ?_
    rintro e w1 ⟨v, rfl, ho, hb1⟩
    obtain ⟨A1, c1, rfl, _, _⟩ := ownsRow_form ho
    have hB1 := HBZ.out.trans (hb1.mono HBZ.out.size)
    have hr := HRD.out w1 hB1
    have HB1 := Lib.hid hB1; have HK1 := Lib.hid (HZ.out.below hb1 HZ.out.lt)
    clear ho hb1 hB1 hcu
    have c0 := HK1.out.cell 0
    have c1 := HK1.out.cell 1
    have f0 := HK1.out.frozen 0
    have f1 := HK1.out.frozen 1
    simp only [List.getElem?_toArray, List.getElem?_cons_zero, List.getElem?_cons_succ] at c0 c1
    have k1 : Blk ((w1.setCell ⟨w.heap.size, 0, none⟩ (.int .i64 0)).setCell ⟨w.heap.size, 1, none⟩ (.int .i64 0)) w.heap.size 37 #[.int .i64 0, .int .i64 0] := (HK1.out.set_ 0 (.int .i64 0)).set_ 1 (.int .i64 0)
    have HKK := Lib.hid k1
    clear k1
    go_wp2
    refine bodyPost_ret (frac_ret2 rfl _ _ w.heap.size _ (by simp) HKK.out) rfl ?_
    exact ⟨rfl, ((HB1.out.setCell (p := ⟨w.heap.size, 0, none⟩) (Nat.le_refl _) _).setCell (p := ⟨w.heap.size, 1, none⟩) (Nat.le_refl _) _)⟩
end Go.Proofs.YtgimhjkijpcgjaaDoor
namespace Go.Proofs.YtgimhjkijpcgjaaDoor
open Go.RowKit Go.Lib

/-! Labels. -/
theorem firstC_is {M : Pts} {k b c : Nat} (hc : c < k) (h0 : 0 ≤ distM M c b) (h : ∀ x, x < c → ¬ 0 ≤ distM M x b) : firstC M k b = some c := by
  unfold firstC
  rw [List.find?_eq_some_iff_getElem]
  refine ⟨decide_eq_true h0, c, by simpa using hc, by simp, fun j hj => ?_⟩
  simp only [List.getElem_range]
  rw [decide_eq_false (h j hj)]; rfl
theorem lab_least {M : Pts} (hM : GoodM M) {a l : Nat} (hl : l ≤ a) (ha : a < M.n) (h0 : 0 ≤ distM M a l) (h : ∀ x, x < l → ¬ 0 ≤ distM M a x) : labK M M.n a = (l : Int) := by
  refine labK_some (firstC_is (by omega) (by rw [hM.symm]; exact h0) fun x hx => ?_)
  rw [hM.symm]
  exact h x hx
theorem labO_take (M : Pts) (k : Nat) : ((List.range (k + 1)).map (labK M M.n)) = ((List.range k).map (labK M M.n)) ++ [labK M M.n k] := by
  rw [List.range_succ, List.map_append]; rfl
end Go.Proofs.YtgimhjkijpcgjaaDoor
namespace Go.Proofs.YtgimhjkijpcgjaaDoor
open Go.RowKit Go.Lib

/-! Middle. -/
theorem all_of_row {M : Pts} (hM : GoodM M) {a : Nat} (h : ∀ b, b < M.n → 0 ≤ distM M a b) : allM M := fun x y hx hy => by
  have h1 := h x hx
  rw [hM.symm] at h1
  exact (hM.tri h1 (h y hy)).1
theorem mid_none {M : Pts} {a b : Nat} (ha : a < M.n) (hb : b < M.n) (h : distM M a b < 0) : midO (some M) = (0, false) := by
  show midS M = _
  unfold midS
  rw [if_neg (fun x => by have := x.1 a b ha hb; omega)]
theorem mid_some {M : Pts} (h : allM M) (h0 : 0 < M.n) : midO (some M) = ((midK M M.n).1, true) ∧ 0 ≤ (midK M M.n).1 := by
  refine ⟨?_, (midK_pos M M.n h0).1⟩
  show midS M = _
  unfold midS
  rw [if_pos ⟨h, h0⟩]
theorem mid_empty {M : Pts} (h0 : M.n = 0) : midO (some M) = (0, false) := by
  show midS M = _
  unfold midS
  rw [if_neg (fun x => by have := x.2; omega)]
theorem mid_step (M : Pts) (k : Nat) : midK M (k + 1) = if (midK M k).1 < 0 ∨ eccM M k < (midK M k).2 then ((k : Int), eccM M k) else midK M k := by
  conv => lhs; unfold midK
theorem mid_bounds (M : Pts) (k : Nat) : -1 ≤ (midK M k).1 ∧ (midK M k).1 < k := by
  rcases Nat.eq_zero_or_pos k with e | e
  · subst e; show (-1 : Int) ≤ -1 ∧ (-1 : Int) < ((0 : Nat) : Int); omega
  · have := midK_pos M k e; omega
end Go.Proofs.YtgimhjkijpcgjaaDoor
namespace Go.Proofs.YtgimhjkijpcgjaaDoor
open Go.RowKit Go.Lib

/-- The reference's test of a next point. -/
def nextOk (M : Pts) (b at_ c : Nat) : Prop := 0 < roadF M.roads at_ c ∧ 0 ≤ distM M c b ∧ roadF M.roads at_ c + distM M c b = distM M at_ b
/-- The next point of the way is the first that passes the test. -/
theorem next_is {names : List ByteArray} {roads : List Rd} (hE : newE names roads = 0) {b at_ : Nat} (hat : at_ < names.length) (h0 : 0 ≤ distM (newM names roads) at_ b) (hne : at_ ≠ b) :
    ∃ (c : Nat) (l : Int), c < names.length ∧ nextOk (newM names roads) b at_ c ∧ (∀ x, x < c → ¬ nextOk (newM names roads) b at_ x) ∧ distM (newM names roads) c b < distM (newM names roads) at_ b ∧
      wayF (newM names roads) b (distM (newM names roads) b at_).toNat at_ = at_ :: wayF (newM names roads) b (distM (newM names roads) b c).toNat c ∧ stepM (newM names roads) b at_ = some (c, l) := by
  have hG := good_new hE
  have hatl : at_ < (newM names roads).near.length := by rw [hG.len]; exact hat
  have h0' : 0 ≤ distM (newM names roads) b at_ := by rw [hG.symm]; exact h0
  obtain ⟨e, k, hk, hs, hek, hpre, hedge, hx0, hsum, hn, hlt⟩ := step_some hG h0' hne hatl
  have hr : roadF roads at_ e.1 = e.2 := roadF_edge hE hedge
  have hl := hG.lens _ _ _ hedge
  refine ⟨e.1, e.2, hn, ⟨?_, ?_, ?_⟩, fun x hx hok => ?_, ?_, wayF_step hG h0' hne hatl hs, hs⟩
  · show 0 < roadF roads at_ e.1
    omega
  · rw [hG.symm]; exact hx0
  · show roadF roads at_ e.1 + _ = _
    rw [hr, hG.symm e.1 b, hG.symm at_ b]; omega
  · obtain ⟨h1, h2, h3⟩ := hok
    obtain ⟨l, hu, hm⟩ := (roadF_pos hE).1 h1
    have hl' : roadF roads at_ x = l := roadF_edge hE ⟨hu, hm⟩
    replace h3 : roadF roads at_ x + distM (newM names roads) x b = distM (newM names roads) at_ b := h3
    obtain ⟨j, hj, hje⟩ := List.getElem_of_mem hm
    have ho := hG.order at_ hatl
    rw [List.pairwise_map] at ho
    have hjk : j < k := by
      rcases Nat.lt_trichotomy j k with h | h | h
      · exact h
      · subst h; rw [hek] at hje; rw [hje] at hx; exact absurd hx (Nat.lt_irrefl x)
      · have := List.pairwise_iff_getElem.1 ho k j hk hj h
        rw [hek, hje] at this
        simp only at this
        omega
    have := hpre j hjk
    rw [hje] at this
    simp only at this
    rw [hG.symm b x, hG.symm b at_] at this
    omega
  · rw [hG.symm e.1 b, hG.symm at_ b]; exact hlt
theorem way_out {om : Option Pts} (hG : GoodO om) {a b : Int} (h : (distO om a b).2 = false) : wayO om a b = [] := by
  by_cases hab : inO om a ∧ inO om b
  · obtain ⟨ha, hb⟩ := hab
    cases om with
    | none => rfl
    | some M =>
      obtain ⟨k, rfl⟩ : ∃ k : Nat, a = k := ⟨a.toNat, by have := ha.1; omega⟩
      obtain ⟨l, rfl⟩ : ∃ l : Nat, b = l := ⟨b.toNat, by have := hb.1; omega⟩
      have hk : k < M.n := by have := ha.2; have : (k : Int) < (M.n : Int) := this; omega
      have hl : l < M.n := by have := hb.2; have : (l : Int) < (M.n : Int) := this; omega
      rw [distO_in hk hl] at h
      exact way_none (hG M rfl) (of_decide_eq_false h)
  · exact wayO_out hab
theorem dist_true {om : Option Pts} {a b : Int} (h : (distO om a b).2 = true) : inO om a ∧ inO om b := by
  by_cases hab : inO om a ∧ inO om b
  · exact hab
  · rw [distO_out hab] at h; cases h
theorem way_start {M : Pts} (hM : GoodM M) {a b : Nat} (ha : a < M.n) (hb : b < M.n) (h0 : 0 ≤ distM M a b) : wayO (some M) a b = intsL (wayF M b (distM M b a).toNat a) := by
  show wayS M a b = _
  have h0' : 0 ≤ distM M b a := by rw [hM.symm]; exact h0
  unfold wayS
  rw [if_pos ⟨⟨by omega, by show (a : Int) < (M.n : Int); omega⟩, ⟨by omega, by show (b : Int) < (M.n : Int); omega⟩⟩, Int.toNat_natCast, Int.toNat_natCast]
  unfold wayL
  rw [if_pos h0']
theorem own_one (w : World) (t : TypeId) (u : Value) : (w.alloc (.cells #[u] t)).ownsRow w.heap.size t 1 (.slice (some ⟨w.heap.size, 0, none⟩) 1 1) 1 [u] :=
  ⟨rfl, .inr ⟨w.heap.size, 1, #[u], rfl, Nat.le_refl _, heap_alloc_new w _, by omega, by unfold maxLen; omega, by simp, by simp⟩⟩
end Go.Proofs.YtgimhjkijpcgjaaDoor
namespace Go.Proofs.YtgimhjkijpcgjaaDoor
open Go.RowKit Go.Lib

theorem okByte_iff (c : UInt8) : okByte c = true ↔ (97 ≤ c.toNat ∧ c.toNat ≤ 122) ∨ (65 ≤ c.toNat ∧ c.toNat ≤ 90) ∨ (48 ≤ c.toNat ∧ c.toNat ≤ 57) ∨ c.toNat = 45 := by
  unfold okByte
  simp only [Bool.or_eq_true, Bool.and_eq_true, decide_eq_true_iff]
  omega
theorem okName_bad {s : ByteArray} {k : Nat} (hk : k < s.data.toList.length) (h : ¬ okByte s.data.toList[k] = true) : okName s = false := by
  unfold okName
  have : s.data.toList.all okByte = false := by
    rw [List.all_eq_false]
    exact ⟨_, List.getElem_mem hk, h⟩
  rw [this, Bool.and_false]
theorem okName_good {s : ByteArray} (h : ∀ j (hl : j < s.data.toList.length), okByte s.data.toList[j] = true) : okName s = (decide (0 < s.size) && decide (s.size ≤ 24)) := by
  unfold okName
  have : s.data.toList.all okByte = true := by
    rw [List.all_eq_true]
    intro x hx
    obtain ⟨i, hi, rfl⟩ := List.getElem_of_mem hx
    exact h i hi
  rw [this, Bool.and_true]
set_option maxRecDepth 20000 in
set_option maxHeartbeats 4000000 in
theorem refname_any (s : ByteArray) (w : World) (hs : s.size ≤ maxLen) : Calls Tryd.prog 73 #[.string s] w fun e w' => e = .returned (.bool (okName s)) ∧ w = w' := by
  obtain ⟨res, hres⟩ : ∃ res, okName s = res := ⟨_, rfl⟩
  rw [hres]
  unfold maxLen at hs
  have HRES := Lib.hid hres
  clear hres
  go_enter Tryd.func73, Tryd.ntmps73
  go_wp2
  go_loopw [3] (fun i wr => ∃ k : Nat, k ≤ s.size ∧ i = .int .i64 k ∧ (∀ j (hj : j < k) (hl : j < s.data.toList.length), okByte s.data.toList[j] = true) ∧ w = wr) (fun i _ => s.size - (intOf i).toNat)
  case atStart => exact ⟨0, by omega, rfl, fun j hj => absurd hj (Nat.not_lt_zero j), rfl⟩
  case round =>
    obtain ⟨k, hk, rfl, ht, rfl⟩ := hrel
    have HT := Lib.hid ht
    clear ht
    by_cases hlt : k < s.size
    · have hkI : (k : Int) < (s.size : Int) := by omega
      have hkl : k < s.data.toList.length := by rw [← Lib.size_eq]; exact hlt
      have hkb : s.data.toList[k] = s[k] := by rw [Array.getElem_toList]; rfl
      have hyes : okByte s[k] = true → ∀ j (hj : j < k + 1) (hl : j < s.data.toList.length), okByte s.data.toList[j] = true := fun h j hj hl => by
        rcases Nat.lt_or_ge j k with h' | h'
        · exact HT.out j h' hl
        · obtain rfl : j = k := by omega
          rw [hkb]; exact h
      have hno : ¬ okByte s[k] = true → false = res := fun h => by rw [← HRES.out, okName_bad hkl (by rw [hkb]; exact h)]
      have hiff := okByte_iff s[k]
      have HY := Lib.hid hyes; have HN := Lib.hid hno; have HI := Lib.hid hiff
      clear hyes hno hkb hiff
      by_cases h45 : s[k].toNat = 45
      · have h45I : (s[k].toNat : Int) = 45 := by omega
        have hok := HY.out (HI.out.2 (by omega))
        have HOK := Lib.hid hok
        clear hok h45 HY HN HI
        go_wp2
        all_goals
          go_roundw
          case rel => exact ⟨k + 1, by omega, by go_num, HOK.out, trivial⟩
          case measure => simp [intOf]; omega
      · have h45I : ¬ (s[k].toNat : Int) = 45 := by omega
        go_wp2
        all_goals first
          | (go_ret
             have hz : ¬ okByte s[k] = true := fun h => by
               have h2 := HI.out.1 h
               omega
             have e0 := HN.out hz
             subst e0
             exact ⟨rfl, rfl⟩)
          | (have hz : okByte s[k] = true := HI.out.2 (by omega)
             have hy := HY.out hz
             go_roundw
             case rel => exact ⟨k + 1, by omega, by go_num, hy, trivial⟩
             case measure => simp [intOf]; omega)
          | (exfalso
             rename_i hq
             simp only [Bool.not_eq_false', decide_eq_true_iff, beq_iff_eq] at hq
             omega)
    · obtain rfl : k = s.size := by omega
      have hr := okName_good (s := s) (fun j hl => HT.out j (by rw [Lib.size_eq]; exact hl) hl)
      rw [HRES.out] at hr
      by_cases h1 : 1 ≤ s.size
      · by_cases h2 : s.size ≤ 24
        · have h1I : (1 : Int) ≤ (s.size : Int) := by omega
          have h2I : (s.size : Int) ≤ 24 := by omega
          rw [decide_eq_true (show 0 < s.size by omega), decide_eq_true h2] at hr
          subst hr
          go_wp2
          go_ret
          exact ⟨rfl, rfl⟩
        · have h1I : (1 : Int) ≤ (s.size : Int) := by omega
          have h2I : ¬ (s.size : Int) ≤ 24 := by omega
          rw [decide_eq_true (show 0 < s.size by omega), decide_eq_false h2] at hr
          subst hr
          go_wp2
          go_ret
          exact ⟨rfl, rfl⟩
      · have h1I : ¬ (1 : Int) ≤ (s.size : Int) := by omega
        rw [decide_eq_false (show ¬ 0 < s.size by omega)] at hr
        subst hr
        go_wp2
        go_ret
        exact ⟨rfl, rfl⟩
end Go.Proofs.YtgimhjkijpcgjaaDoor
namespace Go.Proofs.YtgimhjkijpcgjaaDoor
open Go.RowKit Go.Lib

structure RefW (w : World) (base : Nat) (wr : World) (g : Nat) (vN vR vD : Value) (names : List ByteArray) (roads : List Rd) (n : Nat) (us : Nat → Nat) (D : Nat → Nat → Int) : Prop where
  blk : Blk wr g 122 #[.bool true, vN, vR, vD]
  nm : wr.ownsRow base 9 1 vN names.length (strs names)
  rd : wr.ownsRow base 71 3 vR roads.length (roads.flatMap roadV)
  sq : SqM base wr vD n n us D
  below : Below w.heap.size w wr
section
variable {w wr : World} {base g n : Nat} {vN vR vD : Value} {names : List ByteArray} {roads : List Rd} {us : Nat → Nat} {D D' : Nat → Nat → Int}
theorem RefW.congr (h : RefW w base wr g vN vR vD names roads n us D) (e : ∀ u v, u < n → v < n → D u v = D' u v) : RefW w base wr g vN vR vD names roads n us D' := ⟨h.blk, h.nm, h.rd, h.sq.congr e, h.below⟩
theorem RefW.later {w' : World} (h : RefW w base wr g vN vR vD names roads n us D) (hb : Below wr.heap.size wr w') : RefW w base w' g vN vR vD names roads n us D :=
  ⟨h.blk.below hb h.blk.lt, own_below h.nm hb, own_below h.rd hb, h.sq.later hb, h.below.trans (hb.mono h.below.size)⟩
theorem RefW.drewN (h : RefW w base wr g vN vR vD names roads n us D) (k : Nat) : RefW w base (wr.drewN k) g vN vR vD names roads n us D := h.later (below_drewN _ _ _)
theorem RefW.set_ (h : RefW w base wr g vN vR vD names roads n us D) (hb : w.heap.size ≤ base) {i j : Nat} (hi : i < n) (hj : j < n) (d : Int) : RefW w base (wr.setCell ⟨us i, j, none⟩ (.int .i64 d)) g vN vR vD names roads n us (setD D i j d) :=
  ⟨h.blk.far (p := ⟨us i, j, none⟩) (Blk.ne_ h.blk (h.sq.rows i hi) (by decide)) _,
   h.nm.kept (grown_setCell wr ⟨us i, j, none⟩ _) (.inr (own_blk_ne h.nm (h.sq.rows i hi) (by decide))),
   h.rd.kept (grown_setCell wr ⟨us i, j, none⟩ _) (.inr (own_blk_ne h.rd (h.sq.rows i hi) (by decide))),
   h.sq.set_ hi hj d, h.below.setCell (p := ⟨us i, j, none⟩) (Nat.le_trans hb (h.sq.hu i hi)) _⟩
end
end Go.Proofs.YtgimhjkijpcgjaaDoor
