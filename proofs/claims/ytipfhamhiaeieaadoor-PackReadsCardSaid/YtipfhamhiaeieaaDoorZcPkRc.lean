/-
  layer 43: the reference's count of a pattern's nodes, at most 41. Conditions: a pattern that can be read.
-/
import Derived.Test.YtipfhamhiaeieaaDoorZcag
namespace Go.Proofs.YtipfhamhiaeieaaDoor
open Go.RowKit Go.Lib

theorem ptSz_take {l : List Pt} {i : Nat} (hi : i < l.length) : ptSizes (l.take (i + 1)) = ptSizes (l.take i) + ptSize l[i] := by
  induction l generalizing i with
  | nil => exact absurd hi (by simp)
  | cons p l ih =>
    cases i with
    | zero => simp [ptSizes_cons, ptSizes_nil]
    | succ i => rw [List.take_succ_cons, List.take_succ_cons, ptSizes_cons, ptSizes_cons, ih (by simpa using hi)]; simp; omega
theorem ptSz_take_le {l : List Pt} {i : Nat} (hi : i ≤ l.length) : ptSizes (l.take i) + (l.length - i) ≤ ptSizes l := by
  induction l generalizing i with
  | nil => simp [ptSizes_nil]
  | cons p l ih =>
    have hp := ptSize_pos p
    cases i with
    | zero =>
      have := ih (i := 0) (by omega)
      simp only [List.take_zero, ptSizes_nil, List.length_cons, ptSizes_cons] at this ⊢
      omega
    | succ i =>
      have := ih (i := i) (by simpa using hi)
      rw [List.take_succ_cons, ptSizes_cons, ptSizes_cons, List.length_cons]
      omega
def CntOk (m : Nat) : Prop := ∀ (p : Pt) (k : Int) (s : Snd) (neg : Bool) (lo hi : Int) (A : Option Addr) (n' c : Nat) (w : World) (B n : Nat), 41 - n ≤ m → n ≤ 40 → PatC w B p (patL k s neg lo hi (.slice A n' c)) → B ≤ w.heap.size →
  Calls Tryd.prog 31 #[patV k s neg lo hi (.slice A n' c), .int .i64 n] w fun e w' => e = .returned (.int .i64 (min (n + ptSize p) 41 : Nat)) ∧ Below w.heap.size w w'
set_option maxRecDepth 20000 in
set_option maxHeartbeats 4000000 in
theorem cnt_step (m : Nat) (hm : CntOk m) : CntOk (m + 1) := by
  rintro ⟨k, s, neg, lo, hi, l⟩ k' s' neg' lo' hi' A n' c w B n hnm hn hp hB
  rw [patC_mk] at hp
  obtain ⟨A', c', ys, he, h32, hc, hcm, hr, hps⟩ := hp
  simp only [patL, List.cons.injEq, Value.int.injEq, Value.bool.injEq, Value.slice.injEq, true_and, and_true] at he
  obtain ⟨rfl, h1, h2, rfl, rfl, rfl, rfl, rfl, rfl⟩ := he
  clear h1 h2
  rw [ptSize_mk]
  obtain ⟨T, hT⟩ : ∃ T, min (n + (1 + ptSizes l)) 41 = T := ⟨_, rfl⟩
  rw [hT]
  have hb0 := (Below.refl w.heap.size w).alloc (Nat.le_refl _) (.cells #[.int .i64 k', .int .u32 s'.1, .int .u32 s'.2, .bool neg', .int .i64 lo', .int .i64 hi', .slice A l.length c] 27)
  have hk0 := Blk.new w 27 #[.int .i64 k', .int .u32 s'.1, .int .u32 s'.2, .bool neg', .int .i64 lo', .int .i64 hi', .slice A l.length c]
  have HB0 := Lib.hid hb0; have HK0 := Lib.hid hk0; have HR := Lib.hid hr; have HPS := Lib.hid hps; have HM := Lib.hid hm; have HT := Lib.hid hT; have HBL := Lib.hid hB
  clear hb0 hk0 hr hps hm hT hB
  unfold maxLen at hcm
  go_enter Tryd.func31, Tryd.ntmps31
  go_wp2
  go_loopw [5, 6] (fun t i wr => ∃ j : Nat, j ≤ l.length ∧ i = .int .i64 j ∧ t = .int .i64 (min (n + 1 + ptSizes (l.take j)) 41 : Nat) ∧ Below (w.heap.size + 1) (w.alloc (.cells #[.int .i64 k', .int .u32 s'.1, .int .u32 s'.2, .bool neg', .int .i64 lo', .int .i64 hi', .slice A l.length c] 27)) wr) (fun _ i _ => l.length - (RowKit.intOf i).toNat)
  case atStart => exact ⟨0, by omega, rfl, by rw [List.take_zero, ptSizes_nil, Nat.add_zero, Nat.min_eq_left (by omega)]; rfl, Below.refl _ _⟩
  case round =>
    obtain ⟨j, hj, rfl, rfl, hbw⟩ := hrel
    obtain ⟨t, ht⟩ : ∃ t, min (n + 1 + ptSizes (l.take j)) 41 = t := ⟨_, rfl⟩
    rw [ht]
    have hblk := HK0.out.below hbw (Nat.lt_succ_self _)
    obtain ⟨c0, c1, c2, c3, c4, c5, c6⟩ := hblk.seven
    have hall : Below w.heap.size w wr := HB0.out.trans (hbw.mono (by omega))
    have hle := ptSz_take_le (l := l) hj
    have HALL := Lib.hid hall; have HBW := Lib.hid hbw; have HTT := Lib.hid ht; have HLE := Lib.hid hle
    have ht41 : t ≤ 41 := by omega
    have htn : n + 1 ≤ t := by omega
    clear hblk hall hbw ht hle
    by_cases hlt : j < l.length
    · have hjI : (j : Int) < (l.length : Int) := by omega
      by_cases ht40 : t ≤ 40
      · have htI : (t : Int) ≤ 40 := by omega
        have hadd := ptSz_take hlt
        obtain ⟨ad, k1, s1, neg1, lo1, hi1, A1, n1, c1', rfl, had, hpc, e0, e1, e2, e3, e4, e5, e6⟩ := pat_cells (HR.out.below (HALL.out.mono HBL.out)) (HPS.out.below (HALL.out.mono HBL.out)) rfl (i := j) hlt
        have hcall := HM.out l[j] k1 s1 neg1 lo1 hi1 A1 n1 c1' wr B t (by omega) ht40 hpc (Nat.le_trans HBL.out HALL.out.size)
        have HCALL := Lib.hid hcall; have HADD := Lib.hid hadd
        clear hcall hadd hpc
        go_wp2_with fail
        refine HCALL.out.mono ?_
        rintro e w1 ⟨rfl, hb1⟩
        have HB1 := Lib.hid (HBW.out.trans (hb1.mono (by have := HBW.out.size; simpa using this)))
        clear hb1
        go_wp2
        go_roundw
        case rel => exact ⟨j + 1, by omega, by go_num, by rw [HADD.out, show min (t + ptSize l[j]) 41 = min (n + 1 + (ptSizes (l.take j) + ptSize l[j])) 41 from (by have := HTT.out; omega)], HB1.out⟩
        case measure => simp [RowKit.intOf]; omega
      · have htI : ¬ (t : Int) ≤ 40 := by omega
        have hTT : T = t := by have := HT.out; have := HTT.out; have := HLE.out; omega
        subst hTT
        go_wp2
        go_ret
        exact ⟨rfl, HALL.out⟩
    · obtain rfl : j = l.length := by omega
      have hTT : T = t := by
        have h1 := HT.out; have h2 := HTT.out
        rw [List.take_length] at h2
        omega
      subst hTT
      go_wp2
      go_ret
      exact ⟨rfl, HALL.out⟩
theorem refCnt_any : ∀ m, CntOk m
  | 0 => fun _ _ _ _ _ _ _ _ _ _ _ n h h' => absurd h (by omega)
  | m + 1 => cnt_step m (refCnt_any m)
set_option maxRecDepth 20000 in
theorem refSize_any (p : Pt) (k : Int) (s : Snd) (neg : Bool) (lo hi : Int) (A : Option Addr) (n' c : Nat) (w : World) (B : Nat) (hp : PatC w B p (patL k s neg lo hi (.slice A n' c))) (hB : B ≤ w.heap.size) :
    Calls Tryd.prog 13 #[patV k s neg lo hi (.slice A n' c)] w fun e w' => e = .returned (.int .i64 (min (ptSize p) 41 : Nat)) ∧ Below w.heap.size w w' := by
  have hb0 := (Below.refl w.heap.size w).alloc (Nat.le_refl _) (.cells #[.int .i64 k, .int .u32 s.1, .int .u32 s.2, .bool neg, .int .i64 lo, .int .i64 hi, .slice A n' c] 27)
  have hc := refCnt_any 41 p k s neg lo hi A n' c _ B 0 (by omega) (by omega) (hp.below (hb0.mono hB)) (Nat.le_trans hB hb0.size)
  rw [Nat.zero_add] at hc
  have HC := Lib.hid hc; have HB0 := Lib.hid hb0
  clear hc hb0 hp hB
  go_enter Tryd.func13, Tryd.ntmps13
  go_wp2_with fail
  refine HC.out.mono ?_
  rintro e w1 ⟨rfl, hb1⟩
  have HB1 := Lib.hid (HB0.out.trans (hb1.mono HB0.out.size))
  clear hb1
  go_wp2
  go_ret
  exact ⟨rfl, HB1.out⟩
end Go.Proofs.YtipfhamhiaeieaaDoor
