/-
  layer 36: Near of the program. Conditions: the map lies as New makes it, or is nil; at most 100,000 neighbours.
-/
import Derived.Test.YtdelkgfodeilkaaDoorPtK
namespace Go.Proofs.YtdelkgfodeilkaaDoor
open Go.RowKit Go.Lib

def nearO : Option Pts → List (List (Nat × Int))
  | none => []
  | some M => M.near
def nearL (om : Option Pts) (a : Int) : List Int := if 0 ≤ a ∧ a < (lenO om : Nat) then ((nearO om).getD a.toNat []).map (fun e => (e.1 : Int)) else []
def GivesI (w : World) (xs : List Int) (e : Ending) (w' : World) : Prop := ∃ v, e = .returned v ∧ w'.ownsRow w.heap.size 3 1 v xs.length (xs.map (Value.int .i64)) ∧ Below w.heap.size w w'
set_option maxRecDepth 20000 in
set_option maxHeartbeats 2000000 in
theorem nearP_any (p : Option Addr) (om : Option Pts) (a : Int) (w : World) (h : MapO w p om) (hN : ∀ M, om = some M → M.near.length = M.names.length ∧ ∀ l ∈ M.near, l.length ≤ 100000) :
    Calls Tryd.prog 26 #[.pointer p, .int .i64 a] w (GivesI w (nearL om a)) := by
  have hh := hasP_any p om a w h
  by_cases hb : 0 ≤ a ∧ a < (lenO om : Nat)
  · rw [decide_eq_true hb.1, decide_eq_true hb.2] at hh
    cases om with
    | none => exact absurd hb.2 (by show ¬ a < ((0 : Nat) : Int); omega)
    | some M =>
      obtain ⟨hN1, hN2⟩ := hN M rfl
      obtain ⟨g, rfl, base, vN, vR, vE, mb, h1, h2, h3, h4, vs, h5, h6, h7⟩ := h
      obtain ⟨k, rfl⟩ : ∃ k : Nat, a = k := ⟨a.toNat, by omega⟩
      have hk : k < M.near.length := by have := hb.2; rw [hN1]; show k < lenO (some M); omega
      obtain ⟨u, hu, ho⟩ := h7 k hk
      obtain ⟨A, c, rfl, hc1, hc2⟩ := ownsRow_form h5
      obtain ⟨ad, u', rfl, had, hu', hcx⟩ := Reads.at_ (k := k) (Reads.of_own h5) hk
      obtain rfl : u = u' := Option.some.inj (hu.symm.trans hu')
      obtain ⟨i0, hi, hz0, hz1, hz2⟩ := info_parts (show (Tryd.prog.info? 3).map (fun i => (i.zero, i.size, i.bytes)) = some (some (.int .i64 0), 1, 8) by kernel_rfl)
      have hc := h1.cell 3
      simp only [List.getElem?_toArray, List.getElem?_cons_succ, List.getElem?_cons_zero] at hc
      have hres : nearL (some M) k = M.near[k].map (fun e => (e.1 : Int)) := by
        unfold nearL
        rw [if_pos hb]
        show (M.near.getD (k : Int).toNat []).map _ = _
        rw [Int.toNat_natCast, List.getD_eq_getElem?_getD, List.getElem?_eq_getElem hk]; rfl
      rw [hres]
      have hlk := hN2 _ (List.getElem_mem hk)
      have hkI : (k : Int) < (M.near.length : Int) := by omega
      generalize M.near[k] = l at ho hlk
      obtain ⟨A', c', rfl, hc1', hc2'⟩ := ownsRow_form ho
      clear h1 h2 h3 h4 h5 h6 h7 hres hb hk hu hu' hN hN1 hN2
      generalize M.near.length = n at *
      have HO := Lib.hid ho
      obtain ⟨m, hm⟩ : ∃ m, l.length = m := ⟨_, rfl⟩
      rw [hm] at HO ho hcx hc1'
      have HM := Lib.hid hm
      clear ho
      go_enter Tryd.func26, Tryd.ntmps26
      go_wp2_with fail
      refine hh.mono ?_
      rintro e w' ⟨rfl, rfl⟩
      go_wp2
      go_loopw [5, 20] (fun v i wr => ∃ j : Nat, j ≤ m ∧ i = .int .i64 j ∧ wr.ownsRow w.heap.size 3 1 v j (((l.take j).map fun e => (e.1 : Int)).map (Value.int .i64)) ∧ Below w.heap.size w wr) (fun _ i _ => m - (intOf i).toNat)
      case atStart => exact ⟨0, by omega, rfl, World.ownsRow_nil _ _ _ _, Below.refl _ _⟩
      case round =>
        obtain ⟨j, hj, rfl, hown, hb⟩ := hrel
        by_cases hlt : j < m
        · have hjl : j < l.length := by rw [HM.out]; exact hlt
          obtain ⟨q, cq, hA, _, _, _, hq, hcell⟩ := own_pos2 (own_below HO.out hb) HM.out (by omega)
          simp only [Value.slice.injEq, true_and] at hA
          obtain ⟨rfl, rfl⟩ := hA
          obtain ⟨c0, c1⟩ := hcell j hjl
          have htk := List.take_succ_eq_append_getElem hjl
          have HTK := Lib.hid htk
          generalize l[j] = x at c0 c1 HTK
          have hbs := hb.size
          clear hcell htk
          have hrn := reads_new (wr.alloc (.cells #[.int .i64 x.1, .int .i64 x.2] 76)) 3 [.int .i64 x.1]
          rw [World.size_alloc] at hrn
          have HRN := Lib.hid hrn
          clear hrn
          go_wp2_with (at_builtin; refine wpList_append_any _ rfl _ _ 36 rfl w.heap.size 3 i0 (.int .i64 0) 1 8 Tryd.underlying36 hi hz0 hz1 hz2 rfl (by decide) _ _ _ rfl ((hown.alloc _).alloc _) _ _ _ _ [.int .i64 x.1] rfl HRN.out (by simp [Value.oneCell']) (by unfold maxLen; omega) (by omega) (by simp; omega) ?_; intro v' w2 hown' hgrow hx; clear hx)
          have hb2 : Below w.heap.size w w2 := ((hb.alloc hbs _).alloc (by simp; omega) _).grown hgrow (by simp; omega) (fun g hg => (hown.lt g hg).1)
          clear hgrow hown hb
          go_roundw
          case rel => exact ⟨j + 1, by omega, by go_num, by rw [HTK.out]; simpa using hown', hb2⟩
          case measure => simp [intOf]; omega
        · obtain rfl : j = m := by omega
          rw [List.take_of_length_le (by rw [HM.out]; exact Nat.le_refl _)] at hown
          go_wp2
          go_ret
          exact ⟨_, rfl, by rw [List.length_map, HM.out]; exact hown, hb⟩
  · have hd : (decide (0 ≤ a) && decide (a < (lenO om : Nat))) = false := by
      rw [Bool.and_eq_false_iff, decide_eq_false_iff_not, decide_eq_false_iff_not]; omega
    rw [hd] at hh
    have hres : nearL om a = [] := by unfold nearL; rw [if_neg hb]
    rw [hres]
    clear hd hres hb h hN
    go_enter Tryd.func26, Tryd.ntmps26
    go_wp2_with fail
    refine hh.mono ?_
    rintro e w' ⟨rfl, rfl⟩
    go_wp2
    go_ret
    exact ⟨_, rfl, World.ownsRow_nil _ _ _ _, Below.refl _ _⟩
theorem own_empty3 (w : World) (t : TypeId) : (w.alloc (.cells #[] t)).ownsRow w.heap.size t 3 (.slice (some ⟨w.heap.size, 0, none⟩) 0 0) 0 [] :=
  ⟨rfl, .inr ⟨w.heap.size, 0, #[], rfl, Nat.le_refl _, heap_alloc_new w _, by omega, by omega, by simp, by simp⟩⟩
set_option maxRecDepth 20000 in
set_option maxHeartbeats 1000000 in
theorem cloneR_any (A : Option Addr) (n c : Nat) (xs : List Value) (w : World) (K : Nat) (hr : Reads w K 3 A n xs) (h1 : ∀ u ∈ xs, u.oneCell' = true) (hK : K ≤ w.heap.size) (hn : n ≤ 100000) :
    Calls Tryd.prog 40 #[.slice A n c] w fun e w' => ∃ v, e = .returned v ∧ w'.ownsRow w.heap.size 43 3 v n xs ∧ Below w.heap.size w w' := by
  obtain ⟨i0, hi, hz0, hz1, hz2⟩ := info_parts (show (Tryd.prog.info? 43).map (fun i => (i.zero, i.size, i.bytes)) = some (some (.agg #[.int .i64 0, .int .i64 0, .int .i64 0]), 3, 24) by kernel_rfl)
  have hl := hr.1
  have hnil := fun (W : World) (a : Option Addr) (n c : Nat) => Lib.run_eql_slice_nil (P := Tryd.prog) W 23 43 a n c 0 0 Tryd.underlying23
  rcases A with _ | ad
  · have h0 : n = 0 := by
      rcases Nat.eq_zero_or_pos n with h | h
      · exact h
      · obtain ⟨_, h', _⟩ := hr.2 h; cases h'
    subst h0
    obtain rfl : xs = [] := List.eq_nil_of_length_eq_zero (by omega)
    go_enter Tryd.func40, Tryd.ntmps40
    go_wp2
    go_ret
    exact ⟨_, rfl, World.ownsRow_nil _ _ _ _, Below.refl _ _⟩
  · have hown := own_empty3 w 43
    have hr' := (hr.more hK).alloc (Nat.le_refl _) (.cells #[] 43)
    go_enter Tryd.func40, Tryd.ntmps40
    go_wp2_with (at_builtin; refine wpList_append_any _ rfl _ _ 23 rfl w.heap.size 43 i0 (.agg #[.int .i64 0, .int .i64 0, .int .i64 0]) 3 24 Tryd.underlying23 hi hz0 hz1 hz2 rfl (by decide) _ _ _ rfl hown w.heap.size _ _ _ xs rfl hr' h1 (by unfold maxLen; omega) (by omega) (by simp) ?_; intro v' w1 hown' hgrow _)
    have hb1 : Below w.heap.size w w1 := ((Below.refl _ w).alloc (Nat.le_refl _) _).grown hgrow (by simp) (fun g hg => (hown.lt g hg).1)
    clear hgrow
    go_ret
    exact ⟨_, rfl, by simpa using hown', hb1⟩
def roadsO : Option Pts → List (Int × Int × Int)
  | none => []
  | some M => M.roads
theorem roadsP_any (p : Option Addr) (om : Option Pts) (w : World) (h : MapO w p om) (hN : (roadsO om).length ≤ 100000) : Calls Tryd.prog 33 #[.pointer p] w fun e w' => ∃ v, e = .returned v ∧ w'.ownsRow w.heap.size 43 3 v (roadsO om).length ((roadsO om).flatMap roadV) ∧ Below w.heap.size w w' := by
  cases om with
  | none =>
    obtain rfl : p = none := h
    go_enter Tryd.func33, Tryd.ntmps33
    go_wp2
    go_ret
    exact ⟨_, rfl, World.ownsRow_nil _ _ _ _, Below.refl _ _⟩
  | some M =>
    obtain ⟨g, rfl, base, vN, vR, vE, mb, h1, h2, h3, h4, h5⟩ := h
    obtain ⟨A, c, rfl, hc1, hc2⟩ := ownsRow_form h4
    have hcl := cloneR_any A M.roads.length c (M.roads.flatMap roadV) w w.heap.size (Reads.of_own h4) (fun u hu => by
      obtain ⟨r, _, hr⟩ := List.mem_flatMap.1 hu
      simp only [roadV, List.mem_cons, List.not_mem_nil, or_false] at hr
      rcases hr with rfl | rfl | rfl <;> rfl) (Nat.le_refl _) hN
    have hc := h1.cell 2
    simp only [List.getElem?_toArray, List.getElem?_cons_succ, List.getElem?_cons_zero] at hc
    show Calls _ _ _ _ fun e w' => ∃ v, e = .returned v ∧ w'.ownsRow w.heap.size 43 3 v M.roads.length (M.roads.flatMap roadV) ∧ Below w.heap.size w w'
    clear h1 h2 h3 h4 h5 hN
    generalize M.roads.flatMap roadV = xs at *
    generalize M.roads.length = n at *
    go_enter Tryd.func33, Tryd.ntmps33
    go_wp2_with fail
    refine hcl.mono ?_
    rintro e w1 ⟨v, rfl, ho, hb⟩
    go_wp2
    go_ret
    exact ⟨v, rfl, ho, hb⟩
end Go.Proofs.YtdelkgfodeilkaaDoor
