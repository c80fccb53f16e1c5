/-
  layer 43: the reference's check of a node, each test a piece of its own. Conditions: none. (Printed by refnode.py.)
-/
import Derived.Test.YtipfhamhiaeieaaDoorZcag
import Derived.Deep.DeepCutAuto
namespace Go.Proofs.YtipfhamhiaeieaaDoor
open Go.RowKit Go.Lib

def ndT (k : Int) (a b : Nat) (neg : Bool) (lo hi : Int) (n i : Nat) : Bool := match i with
  | 0 => decide (k < 0) || decide (6 < k)
  | 1 => !decide (k = 1) && (!decide (a = 0 ∧ b = 0) || neg)
  | 2 => !decide (k = 3) && (!decide (k = 4) && (!decide (k = 5) && decide (0 < n)))
  | 3 => !decide (k = 5) && (!decide (lo = 0) || !decide (hi = 0))
  | 4 => decide (k = 5) && (!decide (n = 1) || (decide (lo < 0) || (decide (32 < lo) || (!decide (hi = -1) && (decide (hi < lo) || decide (32 < hi))))))
  | _ => false
theorem ndT_ok (k : Int) (a b : Nat) (neg : Bool) (lo hi : Int) (n : Nat) : nodeOk k (a, b) neg lo hi n = true ↔ (ndT k a b neg lo hi n 0 = false ∧ ndT k a b neg lo hi n 1 = false ∧ ndT k a b neg lo hi n 2 = false ∧ ndT k a b neg lo hi n 3 = false ∧ ndT k a b neg lo hi n 4 = false ∧ validS (a, b) = true) := by
  have h00 : validS (0, 0) = true := by decide
  by_cases hk : k < 0 ∨ 6 < k
  · have : nodeOk k (a, b) neg lo hi n = false := by
      unfold nodeOk
      rw [if_neg (by omega), if_neg (by omega), if_neg (by omega), if_neg (by omega)]
      simp
    rw [this]
    unfold ndT
    simp
    intro h1 h2; omega
  · have hk7 : k = 0 ∨ k = 1 ∨ k = 2 ∨ k = 3 ∨ k = 4 ∨ k = 5 ∨ k = 6 := by omega
    by_cases ha : a = 0
    · by_cases hb : b = 0
      · subst ha hb
        unfold nodeOk ndT
        rcases hk7 with rfl | rfl | rfl | rfl | rfl | rfl | rfl <;> cases neg <;> simp [h00] <;> omega
      · subst ha
        unfold nodeOk ndT
        rcases hk7 with rfl | rfl | rfl | rfl | rfl | rfl | rfl <;> cases neg <;> (try (generalize validS (0, b) = q; cases q)) <;> simp [hb] <;> omega
    · unfold nodeOk ndT
      rcases hk7 with rfl | rfl | rfl | rfl | rfl | rfl | rfl <;> cases neg <;> (try (generalize validS (a, b) = q; cases q)) <;> simp [ha] <;> omega
set_option linter.unusedSimpArgs false in
set_option maxRecDepth 20000 in
set_option maxHeartbeats 8000000 in
theorem refNode_any (k : Int) (s : Snd) (neg : Bool) (lo hi : Int) (A : Option Addr) (n c : Nat) (w : World) (hs : ok32 s) (hn : n ≤ maxLen) :
    Calls Tryd.prog 107 #[patV k s neg lo hi (.slice A n c)] w fun e w' => ∃ x : Int, e = .returned (.int .i64 x) ∧ (x = 0 ↔ nodeOk k s neg lo hi n = true) ∧ Below w.heap.size w w' := by
  unfold maxLen at hn
  have hv := fun W => rvalid2_any s W hs
  obtain ⟨a, b⟩ := s
  have hok := ndT_ok k a b neg lo hi n
  have hb0 := (Below.refl w.heap.size w).alloc (Nat.le_refl _) (.cells #[.int .i64 k, .int .u32 a, .int .u32 b, .bool neg, .int .i64 lo, .int .i64 hi, .slice A n c] 27)
  have hblk := Blk.new w 27 #[.int .i64 k, .int .u32 a, .int .u32 b, .bool neg, .int .i64 lo, .int .i64 hi, .slice A n c]
  obtain ⟨va, hva⟩ : ∃ va, validS (a, b) = va := ⟨_, rfl⟩
  rw [hva] at hv hok
  obtain ⟨ok, hok'⟩ : ∃ ok, nodeOk k (a, b) neg lo hi n = ok := ⟨_, rfl⟩
  rw [hok'] at hok ⊢
  obtain ⟨t0, ht0⟩ : ∃ t, ndT k a b neg lo hi n 0 = t := ⟨_, rfl⟩
  obtain ⟨t1, ht1⟩ : ∃ t, ndT k a b neg lo hi n 1 = t := ⟨_, rfl⟩
  obtain ⟨t2, ht2⟩ : ∃ t, ndT k a b neg lo hi n 2 = t := ⟨_, rfl⟩
  obtain ⟨t3, ht3⟩ : ∃ t, ndT k a b neg lo hi n 3 = t := ⟨_, rfl⟩
  obtain ⟨t4, ht4⟩ : ∃ t, ndT k a b neg lo hi n 4 = t := ⟨_, rfl⟩
  rw [ht0, ht1, ht2, ht3, ht4] at hok
  have c0 := hblk.cell 0; have c1 := hblk.cell 1; have c2 := hblk.cell 2; have c3 := hblk.cell 3; have c4 := hblk.cell 4; have c5 := hblk.cell 5; have c6 := hblk.cell 6
  simp only [List.getElem?_toArray, List.getElem?_cons_zero, List.getElem?_cons_succ] at c0 c1 c2 c3 c4 c5 c6
  have HV := Lib.hid hv; have HB0 := Lib.hid hb0; have HOK := Lib.hid hok; have HT0 := Lib.hid ht0; have HT1 := Lib.hid ht1; have HT2 := Lib.hid ht2; have HT3 := Lib.hid ht3; have HT4 := Lib.hid ht4
  clear hv hb0 hok hva hs hok' ht0 ht1 ht2 ht3 ht4 hblk
  go_enter Tryd.func107, Tryd.ntmps107
  go_upto_region 1 with fail
  obtain ⟨W, hW⟩ : ∃ W, (w.alloc (.cells #[.int .i64 k, .int .u32 a, .int .u32 b, .bool neg, .int .i64 lo, .int .i64 hi, .slice A n c] 27)) = W := ⟨_, rfl⟩
  rw [hW] at HB0 c0 c1 c2 c3 c4 c5 c6 ⊢
  clear hW
  go_cut [0, 10] (fun p v wx => v = .bool t0 ∧ W = wx)
  case first =>
    go_wp2_with fail
    all_goals
      go_meet
      refine ⟨?_, rfl⟩
      have ht := HT0.out
      unfold ndT at ht
      clear HT0 HT1 HT2 HT3 HT4 HOK HV HB0
      refine congrArg Value.bool ?_
      rw [← ht, Bool.eq_iff_iff]
      clear ht c0 c1 c2 c3 c4 c5 c6
      first | (simp <;> omega) | (cases neg <;> simp <;> omega) | (simp_all; done) | (simp_all; omega)
  case rest =>
    obtain ⟨rfl, rfl⟩ := hcut
    cases t0
    rotate_left
    · go_wp2
      go_ret
      exact ⟨_, rfl, ⟨fun h => by omega, fun h => by have := (HOK.out.1 h); simp at this⟩, HB0.out⟩
    go_upto_region 3 with fail
    go_cut [0, 23] (fun p v wx => v = .bool t1 ∧ W = wx)
    case first =>
      by_cases ha : (a : Int) = 0
      all_goals by_cases hb : (b : Int) = 0
      all_goals (first | (have hA : ((a : Int) == 0) = true := by rw [beq_iff_eq]; exact ha) | (have hA : ((a : Int) == 0) = false := by rw [beq_eq_false_iff_ne]; exact ha))
      all_goals (first | (have hB : ((b : Int) == 0) = true := by rw [beq_iff_eq]; exact hb) | (have hB : ((b : Int) == 0) = false := by rw [beq_eq_false_iff_ne]; exact hb))
      all_goals go_wp2_with fail
      all_goals
        go_meet
        refine ⟨?_, rfl⟩
        have ht := HT1.out
        unfold ndT at ht
        clear HT0 HT1 HT2 HT3 HT4 HOK HV HB0
        refine congrArg Value.bool ?_
        rw [← ht, Bool.eq_iff_iff]
        clear ht c0 c1 c2 c3 c4 c5 c6
        first | (simp <;> omega) | (cases neg <;> simp <;> omega) | (simp_all; done) | (simp_all; omega)
    case rest =>
      obtain ⟨rfl, rfl⟩ := hcut
      cases t1
      rotate_left
      · go_wp2
        go_ret
        exact ⟨_, rfl, ⟨fun h => by omega, fun h => by have := (HOK.out.1 h); simp at this⟩, HB0.out⟩
      go_upto_region 5 with fail
      go_cut [0, 42] (fun p v wx => v = .bool t2 ∧ W = wx)
      case first =>
        go_wp2_with fail
        all_goals
          go_meet
          refine ⟨?_, rfl⟩
          have ht := HT2.out
          unfold ndT at ht
          clear HT0 HT1 HT2 HT3 HT4 HOK HV HB0
          refine congrArg Value.bool ?_
          rw [← ht, Bool.eq_iff_iff]
          clear ht c0 c1 c2 c3 c4 c5 c6
          first | (simp <;> omega) | (cases neg <;> simp <;> omega) | (simp_all; done) | (simp_all; omega)
      case rest =>
        obtain ⟨rfl, rfl⟩ := hcut
        cases t2
        rotate_left
        · go_wp2
          go_ret
          exact ⟨_, rfl, ⟨fun h => by omega, fun h => by have := (HOK.out.1 h); simp at this⟩, HB0.out⟩
        go_upto_region 7 with fail
        go_cut [0, 55] (fun p v wx => v = .bool t3 ∧ W = wx)
        case first =>
          go_wp2_with fail
          all_goals
            go_meet
            refine ⟨?_, rfl⟩
            have ht := HT3.out
            unfold ndT at ht
            clear HT0 HT1 HT2 HT3 HT4 HOK HV HB0
            refine congrArg Value.bool ?_
            rw [← ht, Bool.eq_iff_iff]
            clear ht c0 c1 c2 c3 c4 c5 c6
            first | (simp <;> omega) | (cases neg <;> simp <;> omega) | (simp_all; done) | (simp_all; omega)
        case rest =>
          obtain ⟨rfl, rfl⟩ := hcut
          cases t3
          rotate_left
          · go_wp2
            go_ret
            exact ⟨_, rfl, ⟨fun h => by omega, fun h => by have := (HOK.out.1 h); simp at this⟩, HB0.out⟩
          go_upto_region 9 with fail
          go_cut [0, 91] (fun p v wx => v = .bool t4 ∧ W = wx)
          case first =>
            go_wp2_with fail
            all_goals
              go_meet
              refine ⟨?_, rfl⟩
              have ht := HT4.out
              unfold ndT at ht
              clear HT0 HT1 HT2 HT3 HT4 HOK HV HB0
              refine congrArg Value.bool ?_
              rw [← ht, Bool.eq_iff_iff]
              clear ht c0 c1 c2 c3 c4 c5 c6
              first | (simp <;> omega) | (cases neg <;> simp <;> omega) | (simp_all; done) | (simp_all; omega)
          case rest =>
            obtain ⟨rfl, rfl⟩ := hcut
            cases t4
            rotate_left
            · go_wp2
              go_ret
              exact ⟨_, rfl, ⟨fun h => by omega, fun h => by have := (HOK.out.1 h); simp at this⟩, HB0.out⟩
            cases va
            all_goals
              go_wp2_with (go_at_call 73; refine (HV.out _).mono ?_; rintro e wv ⟨rfl, hb⟩; have HBV := Lib.hid (HB0.out.trans (hb.mono HB0.out.size)); clear hb)
              go_ret
              refine ⟨_, rfl, ⟨fun h => ?_, fun h => ?_⟩, HBV.out⟩
              all_goals first
                | (apply HOK.out.2; simp; done)
                | (simp at h; done)
                | rfl
                | (have h2 := HOK.out.1 h; simp at h2; done)
end Go.Proofs.YtipfhamhiaeieaaDoor
