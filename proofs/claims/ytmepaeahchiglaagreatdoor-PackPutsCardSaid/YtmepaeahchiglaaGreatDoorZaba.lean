/-
  layer 43: the reference's check of a node, each test a piece of its own. Conditions: none. (Printed by refnode.py.)
-/
import Derived.Test.YtmepaeahchiglaaGreatDoorZaad
import Derived.Deep.DeepCutAuto
import Derived.Test.YtmepaeahchiglaaGreatDoorZaae
namespace Go.Proofs.YtmepaeahchiglaaGreatDoor
open Go.RowKit Go.Lib

def ndT (k : Int) (a b : Nat) (neg : Bool) (lo hi : Int) (n i : Nat) : Bool := match i with
  | 0 => decide (k < 0) || decide (6 < k)
  | 1 => !decide (k = 1) && (!decide (a = 0 ∧ b = 0) || neg)
  | 2 => !decide (k = 3) && (!decide (k = 4) && (!decide (k = 5) && decide (0 < n)))
  | 3 => !decide (k = 5) && (!decide (lo = 0) || !decide (hi = 0))
  | 4 => decide (k = 5) && (!decide (n = 1) || (decide (lo < 0) || (decide (32 < lo) || (!decide (hi = -1) && (decide (hi < lo) || decide (32 < hi))))))
  | _ => false
theorem ndT_ok (k : Int) (a b : Nat) (neg : Bool) (lo hi : Int) (n : Nat) : nodeOk k (a, b) neg lo hi n = true ↔ (ndT k a b neg lo hi n 0 = false ∧ ndT k a b neg lo hi n 1 = false ∧ ndT k a b neg lo hi n 2 = false ∧ ndT k a b neg lo hi n 3 = false ∧ ndT k a b neg lo hi n 4 = false ∧ validS (a, b) = true) := by
  have h00 : validS (0, 0) = true := by decide
  by_cases hk : k < 0 ∨ 6 < k
  · have : nodeOk k (a, b) neg lo hi n = false := by
      unfold nodeOk
      rw [if_neg (by omega), if_neg (by omega), if_neg (by omega), if_neg (by omega)]
      simp
    rw [this]
    unfold ndT
    simp
    intro h1 h2; omega
  · have hk7 : k = 0 ∨ k = 1 ∨ k = 2 ∨ k = 3 ∨ k = 4 ∨ k = 5 ∨ k = 6 := by omega
    by_cases ha : a = 0
    · by_cases hb : b = 0
      · subst ha hb
        unfold nodeOk ndT
        rcases hk7 with rfl | rfl | rfl | rfl | rfl | rfl | rfl <;> cases neg <;> simp [h00] <;> omega
      · subst ha
        unfold nodeOk ndT
        rcases hk7 with rfl | rfl | rfl | rfl | rfl | rfl | rfl <;> cases neg <;> (try (generalize validS (0, b) = q; cases q)) <;> simp [hb] <;> omega
    · unfold nodeOk ndT
      rcases hk7 with rfl | rfl | rfl | rfl | rfl | rfl | rfl <;> cases neg <;> (try (generalize validS (a, b) = q; cases q)) <;> simp [ha] <;> omega
set_option linter.unusedSimpArgs false in
set_option maxRecDepth 20000 in
set_option maxHeartbeats 8000000 in
theorem refNode_any (k : Int) (s : Snd) (neg : Bool) (lo hi : Int) (A : Option Addr) (n c : Nat) (w : World) (hs : ok32 s) (hn : n ≤ maxLen) :
    Calls Tryz.prog 246 #[patV k s neg lo hi (.slice A n c)] w fun e w' => ∃ x : Int, e = .returned (.int .i64 x) ∧ (x = 0 ↔ nodeOk k s neg lo hi n = true) ∧ Below w.heap.size w w' := by
  unfold maxLen at hn
  have hv := fun W => rvalid2_any s W hs
  obtain ⟨a, b⟩ := s
  have hok := ndT_ok k a b neg lo hi n
  have hb0 := (Below.refl w.heap.size w).alloc (Nat.le_refl _) (.cells #[.int .i64 k, .int .u32 a, .int .u32 b, .bool neg, .int .i64 lo, .int .i64 hi, .slice A n c] 58)
  have hblk := Blk.new w 58 #[.int .i64 k, .int .u32 a, .int .u32 b, .bool neg, .int .i64 lo, .int .i64 hi, .slice A n c]
  obtain ⟨va, hva⟩ : ∃ va, validS (a, b) = va := ⟨_, rfl⟩
  rw [hva] at hv hok
  obtain ⟨ok, hok'⟩ : ∃ ok, nodeOk k (a, b) neg lo hi n = ok := ⟨_, rfl⟩
  rw [hok'] at hok ⊢
  obtain ⟨t0, ht0⟩ : ∃ t, ndT k a b neg lo hi n 0 = t := ⟨_, rfl⟩
  obtain ⟨t1, ht1⟩ : ∃ t, ndT k a b neg lo hi n 1 = t := ⟨_, rfl⟩
  obtain ⟨t2, ht2⟩ : ∃ t, ndT k a b neg lo hi n 2 = t := ⟨_, rfl⟩
  obtain ⟨t3, ht3⟩ : ∃ t, ndT k a b neg lo hi n 3 = t := ⟨_, rfl⟩
  obtain ⟨t4, ht4⟩ : ∃ t, ndT k a b neg lo hi n 4 = t := ⟨_, rfl⟩
  rw [ht0, ht1, ht2, ht3, ht4] at hok
  have c0 := hblk.cell 0; have c1 := hblk.cell 1; have c2 := hblk.cell 2; have c3 := hblk.cell 3; have c4 := hblk.cell 4; have c5 := hblk.cell 5; have c6 := hblk.cell 6
  simp only [List.getElem?_toArray, List.getElem?_cons_zero, List.getElem?_cons_succ] at c0 c1 c2 c3 c4 c5 c6
  have HV := Lib.hid hv; have HB0 := Lib.hid hb0; have HOK := Lib.hid hok; have HT0 := Lib.hid ht0; have HT1 := Lib.hid ht1; have HT2 := Lib.hid ht2; have HT3 := Lib.hid ht3; have HT4 := Lib.hid ht4
  clear hv hb0 hok hva hs hok' ht0 ht1 ht2 ht3 ht4 hblk
  go_enter Tryz.func246, Tryz.ntmps246
  go_upto_region 1 with fail
  obtain ⟨W, hW⟩ : ∃ W, (w.alloc (.cells #[.int .i64 k, .int .u32 a, .int .u32 b, .bool neg, .int .i64 lo, .int .i64 hi, .slice A n c] 58)) = W := ⟨_, rfl⟩
  rw [hW] at HB0 c0 c1 c2 c3 c4 c5 c6 ⊢
  clear hW
  go_cut [0, 10] (fun p v wx => v = .bool t0 ∧ W = wx)
  case first =>
    go_wp2_with fail
    all_goals
      go_meet
      refine ⟨?_, rfl⟩
      have ht := HT0.out
      unfold ndT at ht
      clear HT0 HT1 HT2 HT3 HT4 HOK HV HB0
      refine congrArg Value.bool ?_
      rw [← ht, Bool.eq_iff_iff]
      clear ht c0 c1 c2 c3 c4 c5 c6
      first | (simp <;> omega) | (cases neg <;> simp <;> omega) | (simp_all; done) | (simp_all; omega)
  case rest =>
    obtain ⟨rfl, rfl⟩ := hcut
    cases t0
    rotate_left
    · go_wp2
      go_ret
      exact ⟨_, rfl, ⟨fun h => by omega, fun h => by have := (HOK.out.1 h); simp at this⟩, HB0.out⟩
    go_upto_region 3 with fail
    go_cut [0, 23] (fun p v wx => v = .bool t1 ∧ W = wx)
    case first =>
      by_cases ha : (a : Int) = 0
      all_goals by_cases hb : (b : Int) = 0
      all_goals (first | (have hA : ((a : Int) == 0) = true := by rw [beq_iff_eq]; exact ha) | (have hA : ((a : Int) == 0) = false := by rw [beq_eq_false_iff_ne]; exact ha))
      all_goals (first | (have hB : ((b : Int) == 0) = true := by rw [beq_iff_eq]; exact hb) | (have hB : ((b : Int) == 0) = false := by rw [beq_eq_false_iff_ne]; exact hb))
      all_goals go_wp2_with fail
      all_goals
        go_meet
        refine ⟨?_, rfl⟩
        have ht := HT1.out
        unfold ndT at ht
        clear HT0 HT1 HT2 HT3 HT4 HOK HV HB0
        refine congrArg Value.bool ?_
        rw [← ht, Bool.eq_iff_iff]
        clear ht c0 c1 c2 c3 c4 c5 c6
        first | (simp <;> omega) | (cases neg <;> simp <;> omega) | (simp_all; done) | (simp_all; omega)
    case rest =>
      obtain ⟨rfl, rfl⟩ := hcut
      cases t1
      rotate_left
      · go_wp2
        go_ret
        exact ⟨_, rfl, ⟨fun h => by omega, fun h => by have := (HOK.out.1 h); simp at this⟩, HB0.out⟩
      go_upto_region 5 with fail
      go_cut [0, 42] (fun p v wx => v = .bool t2 ∧ W = wx)
      case first =>
        go_wp2_with fail
        all_goals
          go_meet
          refine ⟨?_, rfl⟩
          have ht := HT2.out
          unfold ndT at ht
          clear HT0 HT1 HT2 HT3 HT4 HOK HV HB0
          refine congrArg Value.bool ?_
          rw [← ht, Bool.eq_iff_iff]
          clear ht c0 c1 c2 c3 c4 c5 c6
          first | (simp <;> omega) | (cases neg <;> simp <;> omega) | (simp_all; done) | (simp_all; omega)
      case rest =>
        obtain ⟨rfl, rfl⟩ := hcut
        cases t2
        rotate_left
        · go_wp2
          go_ret
          exact ⟨_, rfl, ⟨fun h => by omega, fun h => by have := (HOK.out.1 h); simp at this⟩, HB0.out⟩
        go_upto_region 7 with fail
        go_cut [0, 55] (fun p v wx => v = .bool t3 ∧ W = wx)
        case first =>
          go_wp2_with fail
          all_goals
            go_meet
            refine ⟨?_, rfl⟩
            have ht := HT3.out
            unfold ndT at ht
            clear HT0 HT1 HT2 HT3 HT4 HOK HV HB0
            refine congrArg Value.bool ?_
            rw [← ht, Bool.eq_iff_iff]
            clear ht c0 c1 c2 c3 c4 c5 c6
            first | (simp <;> omega) | (cases neg <;> simp <;> omega) | (simp_all; done) | (simp_all; omega)
        case rest =>
          obtain ⟨rfl, rfl⟩ := hcut
          cases t3
          rotate_left
          · go_wp2
            go_ret
            exact ⟨_, rfl, ⟨fun h => by omega, fun h => by have := (HOK.out.1 h); simp at this⟩, HB0.out⟩
          go_upto_region 9 with fail
          go_cut [0, 91] (fun p v wx => v = .bool t4 ∧ W = wx)
          case first =>
            go_wp2_with fail
            all_goals
              go_meet
              refine ⟨?_, rfl⟩
              have ht := HT4.out
              unfold ndT at ht
              clear HT0 HT1 HT2 HT3 HT4 HOK HV HB0
              refine congrArg Value.bool ?_
              rw [← ht, Bool.eq_iff_iff]
              clear ht c0 c1 c2 c3 c4 c5 c6
              first | (simp <;> omega) | (cases neg <;> simp <;> omega) | (simp_all; done) | (simp_all; omega)
          case rest =>
            obtain ⟨rfl, rfl⟩ := hcut
            cases t4
            rotate_left
            · go_wp2
              go_ret
              exact ⟨_, rfl, ⟨fun h => by omega, fun h => by have := (HOK.out.1 h); simp at this⟩, HB0.out⟩
            cases va
            all_goals
              go_wp2_with (go_at_call 231; refine (HV.out _).mono ?_; rintro e wv ⟨rfl, hb⟩; have HBV := Lib.hid (HB0.out.trans (hb.mono HB0.out.size)); clear hb)
              go_ret
              refine ⟨_, rfl, ⟨fun h => ?_, fun h => ?_⟩, HBV.out⟩
              all_goals first
                | (apply HOK.out.2; simp; done)
                | (simp at h; done)
                | rfl
                | (have h2 := HOK.out.1 h; simp at h2; done)
end Go.Proofs.YtmepaeahchiglaaGreatDoor
namespace Go.Proofs.YtmepaeahchiglaaGreatDoor
open Go.RowKit Go.Lib

theorem ptSz_take {l : List Pt} {i : Nat} (hi : i < l.length) : ptSizes (l.take (i + 1)) = ptSizes (l.take i) + ptSize l[i] := by
  induction l generalizing i with
  | nil => exact absurd hi (by simp)
  | cons p l ih =>
    cases i with
    | zero => simp [ptSizes_cons, ptSizes_nil]
    | succ i => rw [List.take_succ_cons, List.take_succ_cons, ptSizes_cons, ptSizes_cons, ih (by simpa using hi)]; simp; omega
theorem ptSz_take_le {l : List Pt} {i : Nat} (hi : i ≤ l.length) : ptSizes (l.take i) + (l.length - i) ≤ ptSizes l := by
  induction l generalizing i with
  | nil => simp [ptSizes_nil]
  | cons p l ih =>
    have hp := ptSize_pos p
    cases i with
    | zero =>
      have := ih (i := 0) (by omega)
      simp only [List.take_zero, ptSizes_nil, List.length_cons, ptSizes_cons] at this ⊢
      omega
    | succ i =>
      have := ih (i := i) (by simpa using hi)
      rw [List.take_succ_cons, ptSizes_cons, ptSizes_cons, List.length_cons]
      omega
def CntOk (m : Nat) : Prop := ∀ (p : Pt) (k : Int) (s : Snd) (neg : Bool) (lo hi : Int) (A : Option Addr) (n' c : Nat) (w : World) (B n : Nat), 41 - n ≤ m → n ≤ 40 → PatC w B p (patL k s neg lo hi (.slice A n' c)) → B ≤ w.heap.size →
  Calls Tryz.prog 150 #[patV k s neg lo hi (.slice A n' c), .int .i64 n] w fun e w' => e = .returned (.int .i64 (min (n + ptSize p) 41 : Nat)) ∧ Below w.heap.size w w'
set_option maxRecDepth 20000 in
set_option maxHeartbeats 4000000 in
theorem cnt_step (m : Nat) (hm : CntOk m) : CntOk (m + 1) := by
  rintro ⟨k, s, neg, lo, hi, l⟩ k' s' neg' lo' hi' A n' c w B n hnm hn hp hB
  rw [patC_mk] at hp
  obtain ⟨A', c', ys, he, h32, hc, hcm, hr, hps⟩ := hp
  simp only [patL, List.cons.injEq, Value.int.injEq, Value.bool.injEq, Value.slice.injEq, true_and, and_true] at he
  obtain ⟨rfl, h1, h2, rfl, rfl, rfl, rfl, rfl, rfl⟩ := he
  clear h1 h2
  rw [ptSize_mk]
  obtain ⟨T, hT⟩ : ∃ T, min (n + (1 + ptSizes l)) 41 = T := ⟨_, rfl⟩
  rw [hT]
  have hb0 := (Below.refl w.heap.size w).alloc (Nat.le_refl _) (.cells #[.int .i64 k', .int .u32 s'.1, .int .u32 s'.2, .bool neg', .int .i64 lo', .int .i64 hi', .slice A l.length c] 58)
  have hk0 := Blk.new w 58 #[.int .i64 k', .int .u32 s'.1, .int .u32 s'.2, .bool neg', .int .i64 lo', .int .i64 hi', .slice A l.length c]
  have HB0 := Lib.hid hb0; have HK0 := Lib.hid hk0; have HR := Lib.hid hr; have HPS := Lib.hid hps; have HM := Lib.hid hm; have HT := Lib.hid hT; have HBL := Lib.hid hB
  clear hb0 hk0 hr hps hm hT hB
  unfold maxLen at hcm
  go_enter Tryz.func150, Tryz.ntmps150
  go_wp2
  go_loopw [5, 6] (fun t i wr => ∃ j : Nat, j ≤ l.length ∧ i = .int .i64 j ∧ t = .int .i64 (min (n + 1 + ptSizes (l.take j)) 41 : Nat) ∧ Below (w.heap.size + 1) (w.alloc (.cells #[.int .i64 k', .int .u32 s'.1, .int .u32 s'.2, .bool neg', .int .i64 lo', .int .i64 hi', .slice A l.length c] 58)) wr) (fun _ i _ => l.length - (RowKit.intOf i).toNat)
  case atStart => exact ⟨0, by omega, rfl, by rw [List.take_zero, ptSizes_nil, Nat.add_zero, Nat.min_eq_left (by omega)]; rfl, Below.refl _ _⟩
  case round =>
    obtain ⟨j, hj, rfl, rfl, hbw⟩ := hrel
    obtain ⟨t, ht⟩ : ∃ t, min (n + 1 + ptSizes (l.take j)) 41 = t := ⟨_, rfl⟩
    rw [ht]
    have hblk := HK0.out.below hbw (Nat.lt_succ_self _)
    obtain ⟨c0, c1, c2, c3, c4, c5, c6⟩ := hblk.seven
    have hall : Below w.heap.size w wr := HB0.out.trans (hbw.mono (by omega))
    have hle := ptSz_take_le (l := l) hj
    have HALL := Lib.hid hall; have HBW := Lib.hid hbw; have HTT := Lib.hid ht; have HLE := Lib.hid hle
    have ht41 : t ≤ 41 := by omega
    have htn : n + 1 ≤ t := by omega
    clear hblk hall hbw ht hle
    by_cases hlt : j < l.length
    · have hjI : (j : Int) < (l.length : Int) := by omega
      by_cases ht40 : t ≤ 40
      · have htI : (t : Int) ≤ 40 := by omega
        have hadd := ptSz_take hlt
        obtain ⟨ad, k1, s1, neg1, lo1, hi1, A1, n1, c1', rfl, had, hpc, e0, e1, e2, e3, e4, e5, e6⟩ := pat_cells (HR.out.below (HALL.out.mono HBL.out)) (HPS.out.below (HALL.out.mono HBL.out)) rfl (i := j) hlt
        have hcall := HM.out l[j] k1 s1 neg1 lo1 hi1 A1 n1 c1' wr B t (by omega) ht40 hpc (Nat.le_trans HBL.out HALL.out.size)
        have HCALL := Lib.hid hcall; have HADD := Lib.hid hadd
        clear hcall hadd hpc
        go_wp2_with fail
        refine HCALL.out.mono ?_
        rintro e w1 ⟨rfl, hb1⟩
        have HB1 := Lib.hid (HBW.out.trans (hb1.mono (by have := HBW.out.size; simpa using this)))
        clear hb1
        go_wp2
        go_roundw
        case rel => exact ⟨j + 1, by omega, by go_num, by rw [HADD.out, show min (t + ptSize l[j]) 41 = min (n + 1 + (ptSizes (l.take j) + ptSize l[j])) 41 from (by have := HTT.out; omega)], HB1.out⟩
        case measure => simp [RowKit.intOf]; omega
      · have htI : ¬ (t : Int) ≤ 40 := by omega
        have hTT : T = t := by have := HT.out; have := HTT.out; have := HLE.out; omega
        subst hTT
        go_wp2
        go_ret
        exact ⟨rfl, HALL.out⟩
    · obtain rfl : j = l.length := by omega
      have hTT : T = t := by
        have h1 := HT.out; have h2 := HTT.out
        rw [List.take_length] at h2
        omega
      subst hTT
      go_wp2
      go_ret
      exact ⟨rfl, HALL.out⟩
theorem refCnt_any : ∀ m, CntOk m
  | 0 => fun _ _ _ _ _ _ _ _ _ _ _ n h h' => absurd h (by omega)
  | m + 1 => cnt_step m (refCnt_any m)
set_option maxRecDepth 20000 in
theorem refSize_any (p : Pt) (k : Int) (s : Snd) (neg : Bool) (lo hi : Int) (A : Option Addr) (n' c : Nat) (w : World) (B : Nat) (hp : PatC w B p (patL k s neg lo hi (.slice A n' c))) (hB : B ≤ w.heap.size) :
    Calls Tryz.prog 81 #[patV k s neg lo hi (.slice A n' c)] w fun e w' => e = .returned (.int .i64 (min (ptSize p) 41 : Nat)) ∧ Below w.heap.size w w' := by
  have hb0 := (Below.refl w.heap.size w).alloc (Nat.le_refl _) (.cells #[.int .i64 k, .int .u32 s.1, .int .u32 s.2, .bool neg, .int .i64 lo, .int .i64 hi, .slice A n' c] 58)
  have hc := refCnt_any 41 p k s neg lo hi A n' c _ B 0 (by omega) (by omega) (hp.below (hb0.mono hB)) (Nat.le_trans hB hb0.size)
  rw [Nat.zero_add] at hc
  have HC := Lib.hid hc; have HB0 := Lib.hid hb0
  clear hc hb0 hp hB
  go_enter Tryz.func81, Tryz.ntmps81
  go_wp2_with fail
  refine HC.out.mono ?_
  rintro e w1 ⟨rfl, hb1⟩
  have HB1 := Lib.hid (HB0.out.trans (hb1.mono HB0.out.size))
  clear hb1
  go_wp2
  go_ret
  exact ⟨rfl, HB1.out⟩
end Go.Proofs.YtmepaeahchiglaaGreatDoor
namespace Go.Proofs.YtmepaeahchiglaaGreatDoor
open Go.RowKit Go.Lib

/-- A pattern fits behind so many nodes. -/
def FitsP (p : Pt) (n : Nat) : Prop := ptOk p = true ∧ n + ptSize p ≤ 40
def WlkPost (p : Pt) (n : Nat) (w : World) (e : Ending) (w' : World) : Prop := ∃ k x : Int, e = .returned (.tuple #[.int .i64 k, .int .i64 x]) ∧ (x = 0 ↔ FitsP p n) ∧ (x = 0 → k = (n + ptSize p : Nat)) ∧ Below w.heap.size w w'
def WlkOk (m : Nat) : Prop := ∀ (p : Pt) (k : Int) (s : Snd) (neg : Bool) (lo hi : Int) (A : Option Addr) (n' c : Nat) (w : World) (B n : Nat), 40 - n ≤ m → n ≤ 40 → PatC w B p (patL k s neg lo hi (.slice A n' c)) → B ≤ w.heap.size →
  Calls Tryz.prog 240 #[patV k s neg lo hi (.slice A n' c), .int .i64 n] w (WlkPost p n w)
theorem ptsOk_take_step {l : List Pt} {i : Nat} (hi : i < l.length) : ptsOk (l.take (i + 1)) = (ptsOk (l.take i) && ptOk l[i]) := by
  rw [List.take_succ_eq_append_getElem hi, ptsOk_append, ptsOk_cons, ptsOk_nil, Bool.and_true]
theorem ptSizes_at {l : List Pt} {i : Nat} (hi : i < l.length) : ptSizes (l.take i) + ptSize l[i] ≤ ptSizes l := by
  rw [← ptSz_take hi]; exact ptSizes_take l (i + 1)
set_option maxRecDepth 20000 in
set_option maxHeartbeats 4000000 in
theorem wlk_step (m : Nat) (hm : ∀ q, q < m → WlkOk q) : WlkOk m := by
  rintro ⟨k, s, neg, lo, hi, l⟩ k' s' neg' lo' hi' A n' c w B n hnm hn hp hB
  rw [patC_mk] at hp
  obtain ⟨A', c', ys, he, h32, hc, hcm, hr, hps⟩ := hp
  simp only [patL, List.cons.injEq, Value.int.injEq, Value.bool.injEq, Value.slice.injEq, true_and, and_true] at he
  obtain ⟨rfl, h1, h2, rfl, rfl, rfl, rfl, rfl, rfl⟩ := he
  obtain rfl : s' = s := Prod.ext (by omega) (by omega)
  clear h1 h2
  have hb0 := (Below.refl w.heap.size w).alloc (Nat.le_refl _) (.cells #[.int .i64 k', .int .u32 s'.1, .int .u32 s'.2, .bool neg', .int .i64 lo', .int .i64 hi', .slice A l.length c] 58)
  have hk0 := Blk.new w 58 #[.int .i64 k', .int .u32 s'.1, .int .u32 s'.2, .bool neg', .int .i64 lo', .int .i64 hi', .slice A l.length c]
  have hnd := refNode_any k' s' neg' lo' hi' A l.length c (w.alloc (.cells #[.int .i64 k', .int .u32 s'.1, .int .u32 s'.2, .bool neg', .int .i64 lo', .int .i64 hi', .slice A l.length c] 58)) h32 (by omega)
  have HFT : Hid (FitsP (.mk k' s' neg' lo' hi' l) n ↔ nodeOk k' s' neg' lo' hi' l.length = true ∧ ptsOk l = true ∧ n + 1 + ptSizes l ≤ 40) := Lib.hid (by
    unfold FitsP
    rw [ptOk_mk, ptSize_mk, Bool.and_eq_true, and_assoc, Nat.add_assoc])
  have HSZ : Hid (n + ptSize (.mk k' s' neg' lo' hi' l) = n + 1 + ptSizes l) := Lib.hid (by rw [ptSize_mk]; omega)
  have HB0 := Lib.hid hb0; have HK0 := Lib.hid hk0; have HR := Lib.hid hr; have HPS := Lib.hid hps; have HM := Lib.hid hm; have HBL := Lib.hid hB; have HND := Lib.hid hnd
  clear hb0 hk0 hr hps hm hB hnd
  unfold WlkPost
  rw [HSZ.out]
  generalize FitsP (.mk k' s' neg' lo' hi' l) n = fit at *
  unfold maxLen at hcm
  by_cases h40 : n = 40
  · have hnI : (n : Int) = 40 := by omega
    go_enter Tryz.func240, Tryz.ntmps240
    go_wp2
    go_ret2
    exact ⟨_, _, rfl, ⟨fun h => absurd h (by decide), fun h => by have := (HFT.out.1 h).2.2; omega⟩, fun h => absurd h (by decide), HB0.out⟩
  · have hnI : ¬ (n : Int) = 40 := by omega
    go_enter Tryz.func240, Tryz.ntmps240
    go_wp2_with fail
    refine HND.out.mono ?_
    rintro e w1 ⟨x, rfl, hx, hb1⟩
    have HX := Lib.hid hx
    have HB1 := Lib.hid (HB0.out.trans (hb1.mono HB0.out.size))
    have HK1 := Lib.hid (HK0.out.below hb1 HK0.out.lt)
    clear hx hb1 HND HK0
    by_cases hx0 : x = 0
    · have hxB : (x != 0) = false := by rw [hx0]; rfl
      have hnode := HX.out.1 hx0
      have HN := Lib.hid hnode
      clear hnode
      subst hx0
      go_wp2
      go_loopw [7, 8] (fun t i wr => ∃ j : Nat, j ≤ l.length ∧ i = .int .i64 j ∧ t = .int .i64 ((n + 1 + ptSizes (l.take j) : Nat) : Int) ∧ ptsOk (l.take j) = true ∧ n + 1 + ptSizes (l.take j) ≤ 40 ∧ Below w1.heap.size w1 wr) (fun _ i _ => l.length - (RowKit.intOf i).toNat)
      case atStart => exact ⟨0, by omega, rfl, by rw [List.take_zero, ptSizes_nil, Nat.add_zero]; go_num, by rw [List.take_zero, ptsOk_nil], by rw [List.take_zero, ptSizes_nil]; omega, Below.refl _ _⟩
      case round =>
        obtain ⟨j, hj, rfl, rfl, hok, h40', hbw⟩ := hrel
        obtain ⟨t, ht⟩ : ∃ t, n + 1 + ptSizes (l.take j) = t := ⟨_, rfl⟩
        rw [ht] at h40' ⊢
        have hblk := HK1.out.below hbw HK1.out.lt
        obtain ⟨c0, c1, c2, c3, c4, c5, c6⟩ := hblk.seven
        have hall : Below w.heap.size w wr := HB1.out.trans (hbw.mono HB1.out.size)
        have htn : n + 1 ≤ t := by omega
        have HALL := Lib.hid hall; have HBW := Lib.hid hbw; have HTT := Lib.hid ht; have HOKT := Lib.hid hok
        clear hblk hall hbw ht hok
        by_cases hlt : j < l.length
        · have hjI : (j : Int) < (l.length : Int) := by omega
          have hadd := ptSz_take hlt
          have hokS := ptsOk_take_step hlt
          have hat := ptSizes_at hlt
          have hmem := fun h : ptsOk l = true => ptsOk_mem (List.getElem_mem hlt) h
          obtain ⟨ad, k1, s1, neg1, lo1, hi1, A1, n1, c1', rfl, had, hpc, e0, e1, e2, e3, e4, e5, e6⟩ := pat_cells (HR.out.below (HALL.out.mono HBL.out)) (HPS.out.below (HALL.out.mono HBL.out)) rfl (i := j) hlt
          have hcall := HM.out (40 - t) (by omega) l[j] k1 s1 neg1 lo1 hi1 A1 n1 c1' wr B t (by omega) h40' hpc (Nat.le_trans HBL.out HALL.out.size)
          have HCALL := Lib.hid hcall; have HADD := Lib.hid hadd; have HOKS := Lib.hid hokS; have HAT := Lib.hid hat; have HMEM := Lib.hid hmem
          clear hcall hadd hpc hokS hat hmem
          generalize l[j] = pj at *
          go_wp2_with fail
          refine HCALL.out.mono ?_
          rintro e w2 ⟨r, y, rfl, hy, hr2, hb2⟩
          have HY := Lib.hid hy; have HR2 := Lib.hid hr2
          have HB2 := Lib.hid (HBW.out.trans (hb2.mono HBW.out.size))
          clear hy hr2 hb2 HCALL
          by_cases hy0 : y = 0
          · have hyB : (y != 0) = false := by rw [hy0]; rfl
            have hf := HY.out.1 hy0
            have hrr := HR2.out hy0
            subst hrr
            have HF := Lib.hid hf
            clear hf
            subst hy0
            go_wp2
            go_roundw
            case rel => exact ⟨j + 1, by omega, by go_num, by rw [HADD.out, ← HTT.out]; go_num, by rw [HOKS.out, HOKT.out, HF.out.1]; rfl, by have := HF.out.2; have := HADD.out; have := HTT.out; omega, HB2.out⟩
            case measure => simp [RowKit.intOf]; omega
          · have hyB : (y != 0) = true := by simp [hy0]
            have HNF := Lib.hid (fun h => hy0 (HY.out.2 h))
            clear hy0
            go_wp2
            go_ret2
            refine ⟨_, _, rfl, ⟨fun h => by subst h; simp at hyB, fun h => ?_⟩, fun h => by subst h; simp at hyB, HB1.out.trans (HB2.out.mono HB1.out.size)⟩
            exfalso
            obtain ⟨_, h2, h3⟩ := HFT.out.1 h
            exact HNF.out ⟨HMEM.out h2, by have := HAT.out; have := HTT.out; omega⟩
        · obtain rfl : j = l.length := by omega
          have h1 := HTT.out
          have h2 := HOKT.out
          rw [List.take_length] at h1 h2
          have HFIT : Hid fit := Lib.hid (HFT.out.2 ⟨HN.out, h2, by omega⟩)
          have H1 := Lib.hid h1
          clear h1 h2
          go_wp2
          go_ret2
          exact ⟨_, _, rfl, ⟨fun _ => HFIT.out, fun _ => rfl⟩, fun _ => by rw [H1.out], HALL.out⟩
    · have hxB : (x != 0) = true := by simp [hx0]
      have HNX := Lib.hid (fun h => hx0 (HX.out.2 h))
      clear hx0
      go_wp2
      go_ret2
      exact ⟨_, _, rfl, ⟨fun h => by subst h; simp at hxB, fun h => absurd (HFT.out.1 h).1 HNX.out⟩, fun h => by subst h; simp at hxB, HB1.out⟩
theorem refWlk_any (m : Nat) : WlkOk m := by
  induction m using Nat.strongRecOn with
  | _ m ih => exact wlk_step m ih
set_option maxRecDepth 20000 in
theorem refCheck_any (p : Pt) (k : Int) (s : Snd) (neg : Bool) (lo hi : Int) (A : Option Addr) (n' c : Nat) (w : World) (B : Nat) (hp : PatC w B p (patL k s neg lo hi (.slice A n' c))) (hB : B ≤ w.heap.size) :
    Calls Tryz.prog 229 #[patV k s neg lo hi (.slice A n' c)] w fun e w' => ∃ x : Int, e = .returned (.int .i64 x) ∧ (x = 0 ↔ patOk p = true) ∧ Below w.heap.size w w' := by
  have hb0 := (Below.refl w.heap.size w).alloc (Nat.le_refl _) (.cells #[.int .i64 k, .int .u32 s.1, .int .u32 s.2, .bool neg, .int .i64 lo, .int .i64 hi, .slice A n' c] 58)
  have hc := refWlk_any 40 p k s neg lo hi A n' c _ B 0 (by omega) (by omega) (hp.below (hb0.mono hB)) (Nat.le_trans hB hb0.size)
  have HF : Hid (FitsP p 0 ↔ patOk p = true) := Lib.hid (by unfold FitsP patOk; rw [Bool.and_eq_true, decide_eq_true_iff, Nat.zero_add])
  have HC := Lib.hid hc; have HB0 := Lib.hid hb0
  clear hc hb0 hp hB
  generalize patOk p = ok at *
  go_enter Tryz.func229, Tryz.ntmps229
  go_wp2_with fail
  refine HC.out.mono ?_
  rintro e w1 ⟨r, x, rfl, hx, _, hb1⟩
  have HX := Lib.hid hx
  have HB1 := Lib.hid (HB0.out.trans (hb1.mono HB0.out.size))
  clear hb1 hx
  go_wp2
  go_ret
  exact ⟨x, rfl, HX.out.trans HF.out, HB1.out⟩
end Go.Proofs.YtmepaeahchiglaaGreatDoor
