/-
  layer 43: the reference's count of a pattern's nodes, at most 41. Conditions: a pattern that can be read.
-/
import Derived.Test.YtmepaeahchiglaaGreatDoorZbad
import Derived.Test.YtmepaeahchiglaaGreatDoorZbas
namespace Go.Proofs.YtmepaeahchiglaaGreatDoor
open Go.RowKit Go.Lib

theorem ptSz_take {l : List Pt} {i : Nat} (hi : i < l.length) : ptSizes (l.take (i + 1)) = ptSizes (l.take i) + ptSize l[i] := by
  induction l generalizing i with
  | nil => exact absurd hi (by simp)
  | cons p l ih =>
    cases i with
    | zero => simp [ptSizes_cons, ptSizes_nil]
    | succ i => rw [List.take_succ_cons, List.take_succ_cons, ptSizes_cons, ptSizes_cons, ih (by simpa using hi)]; simp; omega
theorem ptSz_take_le {l : List Pt} {i : Nat} (hi : i ≤ l.length) : ptSizes (l.take i) + (l.length - i) ≤ ptSizes l := by
  induction l generalizing i with
  | nil => simp [ptSizes_nil]
  | cons p l ih =>
    have hp := ptSize_pos p
    cases i with
    | zero =>
      have := ih (i := 0) (by omega)
      simp only [List.take_zero, ptSizes_nil, List.length_cons, ptSizes_cons] at this ⊢
      omega
    | succ i =>
      have := ih (i := i) (by simpa using hi)
      rw [List.take_succ_cons, ptSizes_cons, ptSizes_cons, List.length_cons]
      omega
def CntOk (m : Nat) : Prop := ∀ (p : Pt) (k : Int) (s : Snd) (neg : Bool) (lo hi : Int) (A : Option Addr) (n' c : Nat) (w : World) (B n : Nat), 41 - n ≤ m → n ≤ 40 → PatC w B p (patL k s neg lo hi (.slice A n' c)) → B ≤ w.heap.size →
  Calls Tryz.prog 150 #[patV k s neg lo hi (.slice A n' c), .int .i64 n] w fun e w' => e = .returned (.int .i64 (min (n + ptSize p) 41 : Nat)) ∧ Below w.heap.size w w'
set_option maxRecDepth 20000 in
set_option maxHeartbeats 4000000 in
theorem cnt_step (m : Nat) (hm : CntOk m) : CntOk (m + 1) := by
  rintro ⟨k, s, neg, lo, hi, l⟩ k' s' neg' lo' hi' A n' c w B n hnm hn hp hB
  rw [patC_mk] at hp
  obtain ⟨A', c', ys, he, h32, hc, hcm, hr, hps⟩ := hp
  simp only [patL, List.cons.injEq, Value.int.injEq, Value.bool.injEq, Value.slice.injEq, true_and, and_true] at he
  obtain ⟨rfl, h1, h2, rfl, rfl, rfl, rfl, rfl, rfl⟩ := he
  clear h1 h2
  rw [ptSize_mk]
  obtain ⟨T, hT⟩ : ∃ T, min (n + (1 + ptSizes l)) 41 = T := ⟨_, rfl⟩
  rw [hT]
  have hb0 := (Below.refl w.heap.size w).alloc (Nat.le_refl _) (.cells #[.int .i64 k', .int .u32 s'.1, .int .u32 s'.2, .bool neg', .int .i64 lo', .int .i64 hi', .slice A l.length c] 58)
  have hk0 := Blk.new w 58 #[.int .i64 k', .int .u32 s'.1, .int .u32 s'.2, .bool neg', .int .i64 lo', .int .i64 hi', .slice A l.length c]
  have HB0 := Lib.hid hb0; have HK0 := Lib.hid hk0; have HR := Lib.hid hr; have HPS := Lib.hid hps; have HM := Lib.hid hm; have HT := Lib.hid hT; have HBL := Lib.hid hB
  clear hb0 hk0 hr hps hm hT hB
  unfold maxLen at hcm
  go_enter Tryz.func150, Tryz.ntmps150
  go_wp2
  go_loopw [5, 6] (fun t i wr => ∃ j : Nat, j ≤ l.length ∧ i = .int .i64 j ∧ t = .int .i64 (min (n + 1 + ptSizes (l.take j)) 41 : Nat) ∧ Below (w.heap.size + 1) (w.alloc (.cells #[.int .i64 k', .int .u32 s'.1, .int .u32 s'.2, .bool neg', .int .i64 lo', .int .i64 hi', .slice A l.length c] 58)) wr) (fun _ i _ => l.length - (RowKit.intOf i).toNat)
  case atStart => exact ⟨0, by omega, rfl, by rw [List.take_zero, ptSizes_nil, Nat.add_zero, Nat.min_eq_left (by omega)]; rfl, Below.refl _ _⟩
  case round =>
    obtain ⟨j, hj, rfl, rfl, hbw⟩ := hrel
    obtain ⟨t, ht⟩ : ∃ t, min (n + 1 + ptSizes (l.take j)) 41 = t := ⟨_, rfl⟩
    rw [ht]
    have hblk := HK0.out.below hbw (Nat.lt_succ_self _)
    obtain ⟨c0, c1, c2, c3, c4, c5, c6⟩ := hblk.seven
    have hall : Below w.heap.size w wr := HB0.out.trans (hbw.mono (by omega))
    have hle := ptSz_take_le (l := l) hj
    have HALL := Lib.hid hall; have HBW := Lib.hid hbw; have HTT := Lib.hid ht; have HLE := Lib.hid hle
    have ht41 : t ≤ 41 := by omega
    have htn : n + 1 ≤ t := by omega
    clear hblk hall hbw ht hle
    by_cases hlt : j < l.length
    · have hjI : (j : Int) < (l.length : Int) := by omega
      by_cases ht40 : t ≤ 40
      · have htI : (t : Int) ≤ 40 := by omega
        have hadd := ptSz_take hlt
        obtain ⟨ad, k1, s1, neg1, lo1, hi1, A1, n1, c1', rfl, had, hpc, e0, e1, e2, e3, e4, e5, e6⟩ := pat_cells (HR.out.below (HALL.out.mono HBL.out)) (HPS.out.below (HALL.out.mono HBL.out)) rfl (i := j) hlt
        have hcall := HM.out l[j] k1 s1 neg1 lo1 hi1 A1 n1 c1' wr B t (by omega) ht40 hpc (Nat.le_trans HBL.out HALL.out.size)
        have HCALL := Lib.hid hcall; have HADD := Lib.hid hadd
        clear hcall hadd hpc
        go_wp2_with fail
        refine HCALL.out.mono ?_
        rintro e w1 ⟨rfl, hb1⟩
        have HB1 := Lib.hid (HBW.out.trans (hb1.mono (by have := HBW.out.size; simpa using this)))
        clear hb1
        go_wp2
        go_roundw
        case rel => exact ⟨j + 1, by omega, by go_num, by rw [HADD.out, show min (t + ptSize l[j]) 41 = min (n + 1 + (ptSizes (l.take j) + ptSize l[j])) 41 from (by have := HTT.out; omega)], HB1.out⟩
        case measure => simp [RowKit.intOf]; omega
      · have htI : ¬ (t : Int) ≤ 40 := by omega
        have hTT : T = t := by have := HT.out; have := HTT.out; have := HLE.out; omega
        subst hTT
        go_wp2
        go_ret
        exact ⟨rfl, HALL.out⟩
    · obtain rfl : j = l.length := by omega
      have hTT : T = t := by
        have h1 := HT.out; have h2 := HTT.out
        rw [List.take_length] at h2
        omega
      subst hTT
      go_wp2
      go_ret
      exact ⟨rfl, HALL.out⟩
theorem refCnt_any : ∀ m, CntOk m
  | 0 => fun _ _ _ _ _ _ _ _ _ _ _ n h h' => absurd h (by omega)
  | m + 1 => cnt_step m (refCnt_any m)
set_option maxRecDepth 20000 in
theorem refSize_any (p : Pt) (k : Int) (s : Snd) (neg : Bool) (lo hi : Int) (A : Option Addr) (n' c : Nat) (w : World) (B : Nat) (hp : PatC w B p (patL k s neg lo hi (.slice A n' c))) (hB : B ≤ w.heap.size) :
    Calls Tryz.prog 81 #[patV k s neg lo hi (.slice A n' c)] w fun e w' => e = .returned (.int .i64 (min (ptSize p) 41 : Nat)) ∧ Below w.heap.size w w' := by
  have hb0 := (Below.refl w.heap.size w).alloc (Nat.le_refl _) (.cells #[.int .i64 k, .int .u32 s.1, .int .u32 s.2, .bool neg, .int .i64 lo, .int .i64 hi, .slice A n' c] 58)
  have hc := refCnt_any 41 p k s neg lo hi A n' c _ B 0 (by omega) (by omega) (hp.below (hb0.mono hB)) (Nat.le_trans hB hb0.size)
  rw [Nat.zero_add] at hc
  have HC := Lib.hid hc; have HB0 := Lib.hid hb0
  clear hc hb0 hp hB
  go_enter Tryz.func81, Tryz.ntmps81
  go_wp2_with fail
  refine HC.out.mono ?_
  rintro e w1 ⟨rfl, hb1⟩
  have HB1 := Lib.hid (HB0.out.trans (hb1.mono HB0.out.size))
  clear hb1
  go_wp2
  go_ret
  exact ⟨rfl, HB1.out⟩
end Go.Proofs.YtmepaeahchiglaaGreatDoor
namespace Go.Proofs.YtmepaeahchiglaaGreatDoor
open Go.RowKit Go.Lib

def RepOk (m : Nat) : Prop := ∀ (p : Pt) (k : Int) (s : Snd) (neg : Bool) (lo hi : Int) (A : Option Addr) (n' c : Nat) (w : World) (B : Nat), ptSize p ≤ m → ptSize p ≤ 1000 → PatC w B p (patL k s neg lo hi (.slice A n' c)) → B ≤ w.heap.size →
  Calls Tryz.prog 149 #[patV k s neg lo hi (.slice A n' c)] w fun e w' => ∃ r : Nat, r ≤ ptSize p ∧ e = .returned (.int .i64 r) ∧ Below w.heap.size w w'
set_option maxRecDepth 20000 in
set_option maxHeartbeats 4000000 in
theorem rep_step (m : Nat) (hm : RepOk m) : RepOk (m + 1) := by
  rintro ⟨k, s, neg, lo, hi, l⟩ k' s' neg' lo' hi' A n' c w B hnm h1000 hp hB
  rw [patC_mk] at hp
  obtain ⟨A', c', ys, he, h32, hc, hcm, hr, hps⟩ := hp
  simp only [patL, List.cons.injEq, Value.int.injEq, Value.bool.injEq, Value.slice.injEq, true_and, and_true] at he
  obtain ⟨rfl, h1, h2, rfl, rfl, rfl, rfl, rfl, rfl⟩ := he
  clear h1 h2
  rw [ptSize_mk] at hnm h1000 ⊢
  have hb0 := (Below.refl w.heap.size w).alloc (Nat.le_refl _) (.cells #[.int .i64 k', .int .u32 s'.1, .int .u32 s'.2, .bool neg', .int .i64 lo', .int .i64 hi', .slice A l.length c] 58)
  have hk0 := Blk.new w 58 #[.int .i64 k', .int .u32 s'.1, .int .u32 s'.2, .bool neg', .int .i64 lo', .int .i64 hi', .slice A l.length c]
  obtain ⟨W0, hW0⟩ : ∃ W, w.alloc (.cells #[.int .i64 k', .int .u32 s'.1, .int .u32 s'.2, .bool neg', .int .i64 lo', .int .i64 hi', .slice A l.length c] 58) = W := ⟨_, rfl⟩
  rw [hW0] at hb0 hk0
  have HW := Lib.hid hW0; have HB0 := Lib.hid hb0; have HK0 := Lib.hid hk0; have HR := Lib.hid hr; have HPS := Lib.hid hps; have HM := Lib.hid hm; have HBL := Lib.hid hB
  have g0 := hk0.cell 0
  simp only [List.getElem?_toArray, List.getElem?_cons_zero] at g0
  unfold maxLen at hcm
  clear hb0 hk0 hr hps hm hB hW0
  obtain ⟨b, hb⟩ : ∃ b, (k' == (5 : Int)) = b := ⟨_, rfl⟩
  go_enter Tryz.func149, Tryz.ntmps149
  cases b
  all_goals
    go_wp2_with (rw [HW.out])
    go_loopw [3, 4] (fun t i wr => ∃ (j r : Nat), j ≤ l.length ∧ i = .int .i64 j ∧ t = .int .i64 r ∧ r ≤ 1 + ptSizes (l.take j) ∧ Blk wr w.heap.size 58 #[.int .i64 k', .int .u32 s'.1, .int .u32 s'.2, .bool neg', .int .i64 lo', .int .i64 hi', .slice A l.length c] ∧ Below w.heap.size w wr) (fun _ i _ => l.length - (RowKit.intOf i).toNat)
    case atStart => first | exact ⟨0, 0, by omega, rfl, rfl, by omega, HK0.out, HB0.out⟩ | exact ⟨0, 1, by omega, rfl, rfl, by omega, HK0.out, HB0.out⟩
    case round =>
      obtain ⟨j, r, hj, rfl, rfl, hr, hbk, hbw⟩ := hrel
      have HBK := Lib.hid hbk; have HBW := Lib.hid hbw; have HRR := Lib.hid hr
      obtain ⟨V, hV⟩ : ∃ W, W = wr := ⟨_, rfl⟩
      subst hV
      have hle := ptSz_take_le (l := l) hj
      have hr1000 : r ≤ 1001 := by omega
      clear hbk hbw hr g0
      have g6 := HBK.out.cell 6
      simp only [List.getElem?_toArray, List.getElem?_cons_zero, List.getElem?_cons_succ] at g6
      by_cases hlt : j < l.length
      · have hjI : (j : Int) < (l.length : Int) := by omega
        have hj0 : (0 : Int) ≤ (j : Int) := by omega
        have hadd := ptSz_take hlt
        have hle2 := ptSz_take_le (l := l) (i := j + 1) hlt
        obtain ⟨ad, k1, s1, neg1, lo1, hi1, A1, n1, c1', rfl, had, hpc, e0, e1, e2, e3, e4, e5, e6⟩ := pat_cells (HR.out.below (HBW.out.mono HBL.out)) (HPS.out.below (HBW.out.mono HBL.out)) rfl (i := j) hlt
        have hcall := HM.out l[j] k1 s1 neg1 lo1 hi1 A1 n1 c1' V B (by omega) (by omega) hpc (Nat.le_trans HBL.out HBW.out.size)
        have hpl : ptSize l[j] ≤ 1000 := by omega
        have HCALL := Lib.hid hcall; have HADD := Lib.hid hadd; have HLE2 := Lib.hid hle2
        clear hcall hadd hpc hle2 hle
        go_wp2_with fail
        refine HCALL.out.mono ?_
        rintro e w1 ⟨r1, hr1, rfl, hb1⟩
        have HB1 := Lib.hid (HBW.out.trans (hb1.mono HBW.out.size)); have HK1 := Lib.hid (HBK.out.below hb1 HBK.out.lt)
        clear hb1
        go_wp2
        go_roundw
        case rel => exact ⟨j + 1, r + r1, by omega, by go_num, by go_num, by have := HADD.out; have := HRR.out; omega, HK1.out, HB1.out⟩
        case measure => simp [RowKit.intOf]; omega
      · obtain rfl : j = l.length := by omega
        have hrr := HRR.out
        rw [List.take_length] at hrr
        have HRR2 := Lib.hid hrr
        clear hrr hlt
        go_wp2
        go_ret
        exact ⟨r, HRR2.out, rfl, HBW.out⟩
theorem repeats_any (p : Pt) (k : Int) (s : Snd) (neg : Bool) (lo hi : Int) (A : Option Addr) (n' c : Nat) (w : World) (B : Nat) (h1000 : ptSize p ≤ 1000) (hp : PatC w B p (patL k s neg lo hi (.slice A n' c))) (hB : B ≤ w.heap.size) :
    Calls Tryz.prog 149 #[patV k s neg lo hi (.slice A n' c)] w fun e w' => ∃ r : Nat, r ≤ ptSize p ∧ e = .returned (.int .i64 r) ∧ Below w.heap.size w w' := by
  have h : ∀ m, RepOk m := by
    intro m
    induction m with
    | zero => intro p k s neg lo hi A n' c w B h0 h1 hp hB; have := ptSize_pos p; omega
    | succ m ih => exact rep_step m ih
  exact h _ p k s neg lo hi A n' c w B (Nat.le_refl _) h1000 hp hB
theorem onC_len {w : World} {B : Nat} : ∀ x cs, OnC w B x cs → cs.length = 1 := by
  rintro x cs ⟨v, rfl, -⟩; rfl
end Go.Proofs.YtmepaeahchiglaaGreatDoor
namespace Go.Proofs.YtmepaeahchiglaaGreatDoor
open Go.RowKit Go.Lib

set_option linter.unusedSimpArgs false in
set_option linter.unusedVariables false in
set_option maxRecDepth 20000 in
set_option maxHeartbeats 8000000 in
theorem reps_any (A : Option Addr) (n c B : Nat) (laws : List Lw) (w : World) (h : SlC LawC 18 w B laws (.slice A n c)) (hB : B ≤ w.heap.size) :
    Calls Tryz.prog 80 #[.slice A n c] w fun e w' => ∃ r : Int, e = .returned (.int .i64 r) ∧ Below w.heap.size w w' := by
  obtain ⟨hn, hn1, hn2⟩ := h.len
  unfold maxLen at hn2
  have HS := Lib.hid h; have HN := Lib.hid hn
  clear h hn
  go_enter Tryz.func80, Tryz.ntmps80
  go_wp2
  go_loopw [3, 4] (fun t i wr => ∃ (k r : Nat), k ≤ n ∧ i = .int .i64 k ∧ t = .int .i64 r ∧ r ≤ 80 ∧ Below w.heap.size w wr) (fun _ i _ => n - (RowKit.intOf i).toNat)
  case atStart => exact ⟨0, 0, by omega, rfl, rfl, by omega, Below.refl _ _⟩
  case round =>
    obtain ⟨k, r, hk, rfl, rfl, hr, hbw⟩ := hrel
    have HBW := Lib.hid hbw
    obtain ⟨V, hV⟩ : ∃ W, W = wr := ⟨_, rfl⟩
    subst hV
    clear hbw
    by_cases hlt : k < n
    case neg =>
      obtain rfl : n = k := by omega
      go_wp2
      go_ret
      first | exact ⟨_, rfl, HBW.out⟩ | exact ⟨⟨_, rfl⟩, HBW.out⟩ | exact HBW.out
    have hkI : (k : Int) < (n : Int) := by omega
    have hk0 : (0 : Int) ≤ (k : Int) := by omega
    by_cases h300 : k ≤ 300
    case neg =>
      have h300I : ¬ (k : Int) ≤ 300 := by omega
      go_wp2
      go_ret
      first | exact ⟨_, rfl, HBW.out⟩ | exact ⟨⟨_, rfl⟩, HBW.out⟩ | exact HBW.out
    have h300I : (k : Int) ≤ 300 := by omega
    have hkl : k < laws.length := by have := HN.out; omega
    obtain ⟨ad, cs, rfl, had, hP, hcc⟩ := slC_cells (by intro x cs h; exact law_len h) HS.out hkl
    have hadb : ∀ m, (ad.add m).block < B := fun m => by rw [add_block_]; exact had
    obtain ⟨k1, s1, n1, lo1, hi1, A1, m1, c1, k2, s2, n2, lo2, hi2, A2, m2, c2, A3, c3, A4, c4, rfl, hp1, hp2, -⟩ := hP.form
    generalize laws[k].ifs.length = i3 at *
    generalize laws[k].outs.length = i4 at *
    generalize laws[k].name = nm at *
    generalize laws[k].mode = mode at *
    obtain ⟨p1, hp1e⟩ : ∃ p, laws[k].left = p := ⟨_, rfl⟩
    obtain ⟨p2, hp2e⟩ : ∃ p, laws[k].right = p := ⟨_, rfl⟩
    rw [hp1e] at hp1
    rw [hp2e] at hp2
    have hcell : ∀ (j : Nat) (u : Value), 0 < j → [.string nm, .int .i64 k1, .int .u32 s1.1, .int .u32 s1.2, .bool n1, .int .i64 lo1, .int .i64 hi1, .slice A1 m1 c1, .int .i64 k2, .int .u32 s2.1, .int .u32 s2.2, .bool n2, .int .i64 lo2, .int .i64 hi2, .slice A2 m2 c2, .slice A3 i3 c3, .slice A4 i4 c4, .int .i64 mode][j]? = some u → w.cell? ⟨(ad.add (k * 18)).block, (ad.add (k * 18)).off + j, none⟩ = some u := fun j u hj hu => by
      have h := hcc j u hu
      obtain ⟨j, rfl⟩ : ∃ i, j = i + 1 := ⟨j - 1, by omega⟩
      rw [add_next] at h
      exact h
    have hS : ∀ W : World, Below w.heap.size w W → W.cell? ⟨(ad.add (k * 18)).block, (ad.add (k * 18)).off + 1, none⟩ = some (.int .i64 k1) ∧ W.cell? ⟨(ad.add (k * 18)).block, (ad.add (k * 18)).off + 2, none⟩ = some (.int .u32 s1.1) ∧ W.cell? ⟨(ad.add (k * 18)).block, (ad.add (k * 18)).off + 3, none⟩ = some (.int .u32 s1.2) ∧ W.cell? ⟨(ad.add (k * 18)).block, (ad.add (k * 18)).off + 4, none⟩ = some (.bool n1) ∧ W.cell? ⟨(ad.add (k * 18)).block, (ad.add (k * 18)).off + 5, none⟩ = some (.int .i64 lo1) ∧ W.cell? ⟨(ad.add (k * 18)).block, (ad.add (k * 18)).off + 6, none⟩ = some (.int .i64 hi1) ∧ W.cell? ⟨(ad.add (k * 18)).block, (ad.add (k * 18)).off + 7, none⟩ = some (.slice A1 m1 c1) ∧ W.cell? ⟨(ad.add (k * 18)).block, (ad.add (k * 18)).off + 8, none⟩ = some (.int .i64 k2) ∧ W.cell? ⟨(ad.add (k * 18)).block, (ad.add (k * 18)).off + 9, none⟩ = some (.int .u32 s2.1) ∧ W.cell? ⟨(ad.add (k * 18)).block, (ad.add (k * 18)).off + 10, none⟩ = some (.int .u32 s2.2) ∧ W.cell? ⟨(ad.add (k * 18)).block, (ad.add (k * 18)).off + 11, none⟩ = some (.bool n2) ∧ W.cell? ⟨(ad.add (k * 18)).block, (ad.add (k * 18)).off + 12, none⟩ = some (.int .i64 lo2) ∧ W.cell? ⟨(ad.add (k * 18)).block, (ad.add (k * 18)).off + 13, none⟩ = some (.int .i64 hi2) ∧ W.cell? ⟨(ad.add (k * 18)).block, (ad.add (k * 18)).off + 14, none⟩ = some (.slice A2 m2 c2) := fun W hW => by
      have hk' := fun (j : Nat) (u : Value) (hj : 0 < j) (hu : [.string nm, .int .i64 k1, .int .u32 s1.1, .int .u32 s1.2, .bool n1, .int .i64 lo1, .int .i64 hi1, .slice A1 m1 c1, .int .i64 k2, .int .u32 s2.1, .int .u32 s2.2, .bool n2, .int .i64 lo2, .int .i64 hi2, .slice A2 m2 c2, .slice A3 i3 c3, .slice A4 i4 c4, .int .i64 mode][j]? = some u) => (hW.cell (p := ⟨(ad.add (k * 18)).block, (ad.add (k * 18)).off + j, none⟩) (Nat.lt_of_lt_of_le (hadb (k * 18)) hB)).trans (hcell j u hj hu)
      exact ⟨hk' 1 _ (by omega) rfl, hk' 2 _ (by omega) rfl, hk' 3 _ (by omega) rfl, hk' 4 _ (by omega) rfl, hk' 5 _ (by omega) rfl, hk' 6 _ (by omega) rfl, hk' 7 _ (by omega) rfl, hk' 8 _ (by omega) rfl, hk' 9 _ (by omega) rfl, hk' 10 _ (by omega) rfl, hk' 11 _ (by omega) rfl, hk' 12 _ (by omega) rfl, hk' 13 _ (by omega) rfl, hk' 14 _ (by omega) rfl⟩
    have hq := hS _ HBW.out.drew
    have hq2 := hS _ (HBW.out.drew.alloc HBW.out.size (.cells #[.int .i64 k1, .int .u32 s1.1, .int .u32 s1.2, .bool n1, .int .i64 lo1, .int .i64 hi1, .slice A1 m1 c1, .int .i64 k2, .int .u32 s2.1, .int .u32 s2.2, .bool n2, .int .i64 lo2, .int .i64 hi2, .slice A2 m2 c2] 58))
    have HP1 := Lib.hid hp1; have HP2 := Lib.hid hp2
    have hb1 := HBW.out.drew.alloc HBW.out.size (.cells #[.int .i64 k1, .int .u32 s1.1, .int .u32 s1.2, .bool n1, .int .i64 lo1, .int .i64 hi1, .slice A1 m1 c1, .int .i64 k2, .int .u32 s2.1, .int .u32 s2.2, .bool n2, .int .i64 lo2, .int .i64 hi2, .slice A2 m2 c2] 58)
    have hrow := Blk.new V.drew 58 #[.int .i64 k1, .int .u32 s1.1, .int .u32 s1.2, .bool n1, .int .i64 lo1, .int .i64 hi1, .slice A1 m1 c1, .int .i64 k2, .int .u32 s2.1, .int .u32 s2.2, .bool n2, .int .i64 lo2, .int .i64 hi2, .slice A2 m2 c2]
    have HB1 := Lib.hid hb1; have HROW := Lib.hid hrow
    clear hcell hcc hP hp1 hp2 hS hb1 hrow hp1e hp2e
    go_wp2
    refine wp_region_held_drew (S := (fun W => W.cell? ⟨(ad.add (k * 18)).block, (ad.add (k * 18)).off + 1, none⟩ = some (.int .i64 k1) ∧ W.cell? ⟨(ad.add (k * 18)).block, (ad.add (k * 18)).off + 2, none⟩ = some (.int .u32 s1.1) ∧ W.cell? ⟨(ad.add (k * 18)).block, (ad.add (k * 18)).off + 3, none⟩ = some (.int .u32 s1.2) ∧ W.cell? ⟨(ad.add (k * 18)).block, (ad.add (k * 18)).off + 4, none⟩ = some (.bool n1) ∧ W.cell? ⟨(ad.add (k * 18)).block, (ad.add (k * 18)).off + 5, none⟩ = some (.int .i64 lo1) ∧ W.cell? ⟨(ad.add (k * 18)).block, (ad.add (k * 18)).off + 6, none⟩ = some (.int .i64 hi1) ∧ W.cell? ⟨(ad.add (k * 18)).block, (ad.add (k * 18)).off + 7, none⟩ = some (.slice A1 m1 c1) ∧ W.cell? ⟨(ad.add (k * 18)).block, (ad.add (k * 18)).off + 8, none⟩ = some (.int .i64 k2) ∧ W.cell? ⟨(ad.add (k * 18)).block, (ad.add (k * 18)).off + 9, none⟩ = some (.int .u32 s2.1) ∧ W.cell? ⟨(ad.add (k * 18)).block, (ad.add (k * 18)).off + 10, none⟩ = some (.int .u32 s2.2) ∧ W.cell? ⟨(ad.add (k * 18)).block, (ad.add (k * 18)).off + 11, none⟩ = some (.bool n2) ∧ W.cell? ⟨(ad.add (k * 18)).block, (ad.add (k * 18)).off + 12, none⟩ = some (.int .i64 lo2) ∧ W.cell? ⟨(ad.add (k * 18)).block, (ad.add (k * 18)).off + 13, none⟩ = some (.int .i64 hi2) ∧ W.cell? ⟨(ad.add (k * 18)).block, (ad.add (k * 18)).off + 14, none⟩ = some (.slice A2 m2 c2))) (by kernel_rfl) ?_ (fun hHeld => ?_)
    · (try dsimp only)
      (first | exact hq | exact hq2)
    refine wpAnyH_take (i := 0) (v := ?_) rfl (by kernel_rfl) (by kernel_rfl) (by kernel_rfl) (fun _ _ _ h => h) (Or.inl ⟨by rfl, ?_⟩) (by assumption) ?_
    rotate_left
    · intro w hSw
      (try dsimp only at hSw)
      go_simp <;> with_reducible rfl
    try simp only [Act.put, List.getElem_toArray, List.getElem_cons_succ, List.getElem_cons_zero, List.setIfInBounds_toArray, List.set_cons_zero, List.set_cons_succ]
    refine wpAnyH_take (i := 1) (v := ?_) rfl (by kernel_rfl) (by kernel_rfl) (by kernel_rfl) (fun _ _ _ h => h) (Or.inl ⟨by rfl, ?_⟩) (by assumption) ?_
    rotate_left
    · intro w hSw
      (try dsimp only at hSw)
      go_simp <;> with_reducible rfl
    try simp only [Act.put, List.getElem_toArray, List.getElem_cons_succ, List.getElem_cons_zero, List.setIfInBounds_toArray, List.set_cons_zero, List.set_cons_succ]
    refine wpAnyH_take (i := 2) (v := ?_) rfl (by kernel_rfl) (by kernel_rfl) (by kernel_rfl) (fun _ _ _ h => h) (Or.inl ⟨by rfl, ?_⟩) (by assumption) ?_
    rotate_left
    · intro w hSw
      (try dsimp only at hSw)
      go_simp <;> with_reducible rfl
    try simp only [Act.put, List.getElem_toArray, List.getElem_cons_succ, List.getElem_cons_zero, List.setIfInBounds_toArray, List.set_cons_zero, List.set_cons_succ]
    refine wpAnyH_take (i := 3) (v := ?_) rfl (by kernel_rfl) (by kernel_rfl) (by kernel_rfl) (fun _ _ _ h => h) (Or.inl ⟨by rfl, ?_⟩) (by assumption) ?_
    rotate_left
    · intro w hSw
      (try dsimp only at hSw)
      go_simp <;> with_reducible rfl
    try simp only [Act.put, List.getElem_toArray, List.getElem_cons_succ, List.getElem_cons_zero, List.setIfInBounds_toArray, List.set_cons_zero, List.set_cons_succ]
    refine wpAnyH_take (i := 4) (v := ?_) rfl (by kernel_rfl) (by kernel_rfl) (by kernel_rfl) (fun _ _ _ h => h) (Or.inl ⟨by rfl, ?_⟩) (by assumption) ?_
    rotate_left
    · intro w hSw
      (try dsimp only at hSw)
      go_simp <;> with_reducible rfl
    try simp only [Act.put, List.getElem_toArray, List.getElem_cons_succ, List.getElem_cons_zero, List.setIfInBounds_toArray, List.set_cons_zero, List.set_cons_succ]
    refine wpAnyH_take (i := 5) (v := ?_) rfl (by kernel_rfl) (by kernel_rfl) (by kernel_rfl) (fun _ _ _ h => h) (Or.inl ⟨by rfl, ?_⟩) (by assumption) ?_
    rotate_left
    · intro w hSw
      (try dsimp only at hSw)
      go_simp <;> with_reducible rfl
    try simp only [Act.put, List.getElem_toArray, List.getElem_cons_succ, List.getElem_cons_zero, List.setIfInBounds_toArray, List.set_cons_zero, List.set_cons_succ]
    refine wpAnyH_take (i := 6) (v := ?_) rfl (by kernel_rfl) (by kernel_rfl) (by kernel_rfl) (fun _ _ _ h => h) (Or.inl ⟨by rfl, ?_⟩) (by assumption) ?_
    rotate_left
    · intro w hSw
      (try dsimp only at hSw)
      go_simp <;> with_reducible rfl
    try simp only [Act.put, List.getElem_toArray, List.getElem_cons_succ, List.getElem_cons_zero, List.setIfInBounds_toArray, List.set_cons_zero, List.set_cons_succ]
    refine wpAnyH_take (i := 7) (v := ?_) rfl (by kernel_rfl) (by kernel_rfl) (by kernel_rfl) (fun _ _ _ h => h) (Or.inl ⟨by rfl, ?_⟩) (by assumption) ?_
    rotate_left
    · intro w hSw
      (try dsimp only at hSw)
      go_simp <;> with_reducible rfl
    try simp only [Act.put, List.getElem_toArray, List.getElem_cons_succ, List.getElem_cons_zero, List.setIfInBounds_toArray, List.set_cons_zero, List.set_cons_succ]
    refine wpAnyH_take (i := 8) (v := ?_) rfl (by kernel_rfl) (by kernel_rfl) (by kernel_rfl) (fun _ _ _ h => h) (Or.inl ⟨by rfl, ?_⟩) (by assumption) ?_
    rotate_left
    · intro w hSw
      (try dsimp only at hSw)
      go_simp <;> with_reducible rfl
    try simp only [Act.put, List.getElem_toArray, List.getElem_cons_succ, List.getElem_cons_zero, List.setIfInBounds_toArray, List.set_cons_zero, List.set_cons_succ]
    refine wpAnyH_take (i := 9) (v := ?_) rfl (by kernel_rfl) (by kernel_rfl) (by kernel_rfl) (fun _ _ _ h => h) (Or.inl ⟨by rfl, ?_⟩) (by assumption) ?_
    rotate_left
    · intro w hSw
      (try dsimp only at hSw)
      go_simp <;> with_reducible rfl
    try simp only [Act.put, List.getElem_toArray, List.getElem_cons_succ, List.getElem_cons_zero, List.setIfInBounds_toArray, List.set_cons_zero, List.set_cons_succ]
    refine wpAnyH_take (i := 12) (v := ?_) rfl (by kernel_rfl) (by kernel_rfl) (by kernel_rfl) (fun _ _ _ h => h) (Or.inl ⟨by rfl, ?_⟩) (by assumption) ?_
    rotate_left
    · intro w hSw
      (try dsimp only at hSw)
      go_simp <;> with_reducible rfl
    try simp only [Act.put, List.getElem_toArray, List.getElem_cons_succ, List.getElem_cons_zero, List.setIfInBounds_toArray, List.set_cons_zero, List.set_cons_succ]
    refine wpAnyH_ready (rs := [10]) (by kernel_rfl) (by simp) ?_
    refine AllReadyH.cons rfl (fun K hK => ?_) AllReadyH.nil
    go_simp
    refine hK.out _ _ ?_ (fun hHeld' => ?_)
    · (try dsimp only)
      (first | exact hq | exact hq2)
    clear hK K hHeld
    have hHeld := hHeld'
    clear hHeld'
    refine wpAnyH_take (i := 11) (v := ?_) rfl (by kernel_rfl) (by kernel_rfl) (by kernel_rfl) (fun _ _ _ h => h) (Or.inl ⟨by rfl, ?_⟩) (by assumption) ?_
    rotate_left
    · intro w hSw
      (try dsimp only at hSw)
      go_simp <;> with_reducible rfl
    try simp only [Act.put, List.getElem_toArray, List.getElem_cons_succ, List.getElem_cons_zero, List.setIfInBounds_toArray, List.set_cons_zero, List.set_cons_succ]
    refine wpAnyH_done (by kernel_rfl) ?_ _
    go_wp2
    go_loopw [5, 30] (fun t i wr => ∃ (j x : Nat), j ≤ 2 ∧ i = .int .i64 j ∧ t = .int .i64 x ∧ x ≤ 40 * j ∧ Blk wr V.heap.size 58 #[.int .i64 k1, .int .u32 s1.1, .int .u32 s1.2, .bool n1, .int .i64 lo1, .int .i64 hi1, .slice A1 m1 c1, .int .i64 k2, .int .u32 s2.1, .int .u32 s2.2, .bool n2, .int .i64 lo2, .int .i64 hi2, .slice A2 m2 c2] ∧ Below w.heap.size w wr) (fun _ i _ => 2 - (RowKit.intOf i).toNat)
    case atStart => exact ⟨0, 0, by omega, rfl, rfl, by omega, HROW.out, HB1.out⟩
    case round =>
      obtain ⟨j, x, hj, rfl, rfl, hx, hbk, hby⟩ := hrel
      have HBK := Lib.hid hbk; have HBY := Lib.hid hby
      obtain ⟨Y, hY⟩ : ∃ W, W = wr := ⟨_, rfl⟩
      subst hY
      clear hbk hby hHeld hq hq2
      by_cases hj2 : j < 2
      · obtain rfl | rfl : j = 0 ∨ j = 1 := by omega
        · have hjI : (((0 : Nat) : Int)) < 2 := by omega
          have d0 := HBK.out.cell 0; have d1 := HBK.out.cell 1; have d2 := HBK.out.cell 2; have d3 := HBK.out.cell 3; have d4 := HBK.out.cell 4; have d5 := HBK.out.cell 5; have d6 := HBK.out.cell 6
          simp only [List.getElem?_toArray, List.getElem?_cons_zero, List.getElem?_cons_succ] at d0 d1 d2 d3 d4 d5 d6
          have hb2 := HBY.out.alloc HBY.out.size (.cells #[.int .i64 k1, .int .u32 s1.1, .int .u32 s1.2, .bool n1, .int .i64 lo1, .int .i64 hi1, .slice A1 m1 c1] 58)
          have hk2 := Blk.new Y 58 #[.int .i64 k1, .int .u32 s1.1, .int .u32 s1.2, .bool n1, .int .i64 lo1, .int .i64 hi1, .slice A1 m1 c1]
          have hsz2 : Y.heap.size < (Y.alloc (.cells #[.int .i64 k1, .int .u32 s1.1, .int .u32 s1.2, .bool n1, .int .i64 lo1, .int .i64 hi1, .slice A1 m1 c1] 58)).heap.size := by rw [World.size_alloc]; omega
          have hkr := HBK.out.alloc (.cells #[.int .i64 k1, .int .u32 s1.1, .int .u32 s1.2, .bool n1, .int .i64 lo1, .int .i64 hi1, .slice A1 m1 c1] 58)
          have hsize := refSize_any p1 k1 s1 n1 lo1 hi1 A1 m1 c1 (Y.alloc (.cells #[.int .i64 k1, .int .u32 s1.1, .int .u32 s1.2, .bool n1, .int .i64 lo1, .int .i64 hi1, .slice A1 m1 c1] 58)) B (HP1.out.below (hb2.mono hB)) (Nat.le_trans hB hb2.size)
          have hrep := fun (h : ptSize p1 ≤ 40) (W : World) (hW : Below w.heap.size w W) => repeats_any p1 k1 s1 n1 lo1 hi1 A1 m1 c1 W B (by omega) (HP1.out.below (hW.mono hB)) (Nat.le_trans hB hW.size)
          have HB2 := Lib.hid hb2; have HK2 := Lib.hid hk2; have HKR := Lib.hid hkr; have HSIZE := Lib.hid hsize; have HREP := Lib.hid hrep
          have b0 := hk2.cell 0; have b1 := hk2.cell 1; have b2 := hk2.cell 2; have b3 := hk2.cell 3; have b4 := hk2.cell 4; have b5 := hk2.cell 5; have b6 := hk2.cell 6
          simp only [List.getElem?_toArray, List.getElem?_cons_zero, List.getElem?_cons_succ] at b0 b1 b2 b3 b4 b5 b6
          clear hb2 hk2 hkr hsize hrep
          obtain ⟨q, hq⟩ : ∃ q, min (ptSize p1) 41 = q := ⟨_, rfl⟩
          have hsz := HSIZE.out
          rw [hq] at hsz
          have HSIZE2 := Lib.hid hsz; have HQ := Lib.hid hq
          clear hsz hq
          go_wp2_with fail
          refine HSIZE2.out.mono ?_
          rintro e w3 ⟨rfl, hb3⟩
          have HB3 := Lib.hid (HB2.out.trans (hb3.mono HB2.out.size)); have HK3 := Lib.hid (HK2.out.below hb3 hsz2); have HKR3 := Lib.hid (HKR.out.below hb3 HKR.out.lt)
          clear hb3 d0 d1 d2 d3 d4 d5 d6 b0 b1 b2 b3 b4 b5 b6
          by_cases hq40 : q ≤ 40
          · have hqI : (q : Int) ≤ 40 := by omega
            have hps : ptSize p1 ≤ 40 := by have := HQ.out; omega
            have hcall := HREP.out hps w3 HB3.out
            have HCALL := Lib.hid hcall
            have b0 := HK3.out.cell 0; have b1 := HK3.out.cell 1; have b2 := HK3.out.cell 2; have b3 := HK3.out.cell 3; have b4 := HK3.out.cell 4; have b5 := HK3.out.cell 5; have b6 := HK3.out.cell 6
            simp only [List.getElem?_toArray, List.getElem?_cons_zero, List.getElem?_cons_succ] at b0 b1 b2 b3 b4 b5 b6
            clear hcall hq40
            go_wp2_with fail
            refine HCALL.out.mono ?_
            rintro e w4 ⟨r4, hr4, rfl, hb4⟩
            have HB4 := Lib.hid (HB3.out.trans (hb4.mono HB3.out.size)); have HKR4 := Lib.hid (HKR3.out.below hb4 HKR3.out.lt)
            have hr40 : r4 ≤ 40 := by omega
            clear hb4 b0 b1 b2 b3 b4 b5 b6
            go_wp2
            go_roundw
            case rel => exact ⟨0 + 1, x + r4, by omega, by go_num, by go_num, by omega, HKR4.out, HB4.out⟩
            case measure => simp [RowKit.intOf]
          · have hqI : ¬ (q : Int) ≤ 40 := by omega
            clear hq40
            go_wp2
            go_roundw
            case rel => exact ⟨0 + 1, x, by omega, by go_num, rfl, by omega, HKR3.out, HB3.out⟩
            case measure => simp [RowKit.intOf]
        · have hjI : (((1 : Nat) : Int)) < 2 := by omega
          have d0 := HBK.out.cell 7; have d1 := HBK.out.cell 8; have d2 := HBK.out.cell 9; have d3 := HBK.out.cell 10; have d4 := HBK.out.cell 11; have d5 := HBK.out.cell 12; have d6 := HBK.out.cell 13
          simp only [List.getElem?_toArray, List.getElem?_cons_zero, List.getElem?_cons_succ] at d0 d1 d2 d3 d4 d5 d6
          have hb2 := HBY.out.alloc HBY.out.size (.cells #[.int .i64 k2, .int .u32 s2.1, .int .u32 s2.2, .bool n2, .int .i64 lo2, .int .i64 hi2, .slice A2 m2 c2] 58)
          have hk2 := Blk.new Y 58 #[.int .i64 k2, .int .u32 s2.1, .int .u32 s2.2, .bool n2, .int .i64 lo2, .int .i64 hi2, .slice A2 m2 c2]
          have hsz2 : Y.heap.size < (Y.alloc (.cells #[.int .i64 k2, .int .u32 s2.1, .int .u32 s2.2, .bool n2, .int .i64 lo2, .int .i64 hi2, .slice A2 m2 c2] 58)).heap.size := by rw [World.size_alloc]; omega
          have hkr := HBK.out.alloc (.cells #[.int .i64 k2, .int .u32 s2.1, .int .u32 s2.2, .bool n2, .int .i64 lo2, .int .i64 hi2, .slice A2 m2 c2] 58)
          have hsize := refSize_any p2 k2 s2 n2 lo2 hi2 A2 m2 c2 (Y.alloc (.cells #[.int .i64 k2, .int .u32 s2.1, .int .u32 s2.2, .bool n2, .int .i64 lo2, .int .i64 hi2, .slice A2 m2 c2] 58)) B (HP2.out.below (hb2.mono hB)) (Nat.le_trans hB hb2.size)
          have hrep := fun (h : ptSize p2 ≤ 40) (W : World) (hW : Below w.heap.size w W) => repeats_any p2 k2 s2 n2 lo2 hi2 A2 m2 c2 W B (by omega) (HP2.out.below (hW.mono hB)) (Nat.le_trans hB hW.size)
          have HB2 := Lib.hid hb2; have HK2 := Lib.hid hk2; have HKR := Lib.hid hkr; have HSIZE := Lib.hid hsize; have HREP := Lib.hid hrep
          have b0 := hk2.cell 0; have b1 := hk2.cell 1; have b2 := hk2.cell 2; have b3 := hk2.cell 3; have b4 := hk2.cell 4; have b5 := hk2.cell 5; have b6 := hk2.cell 6
          simp only [List.getElem?_toArray, List.getElem?_cons_zero, List.getElem?_cons_succ] at b0 b1 b2 b3 b4 b5 b6
          clear hb2 hk2 hkr hsize hrep
          obtain ⟨q, hq⟩ : ∃ q, min (ptSize p2) 41 = q := ⟨_, rfl⟩
          have hsz := HSIZE.out
          rw [hq] at hsz
          have HSIZE2 := Lib.hid hsz; have HQ := Lib.hid hq
          clear hsz hq
          go_wp2_with fail
          refine HSIZE2.out.mono ?_
          rintro e w3 ⟨rfl, hb3⟩
          have HB3 := Lib.hid (HB2.out.trans (hb3.mono HB2.out.size)); have HK3 := Lib.hid (HK2.out.below hb3 hsz2); have HKR3 := Lib.hid (HKR.out.below hb3 HKR.out.lt)
          clear hb3 d0 d1 d2 d3 d4 d5 d6 b0 b1 b2 b3 b4 b5 b6
          by_cases hq40 : q ≤ 40
          · have hqI : (q : Int) ≤ 40 := by omega
            have hps : ptSize p2 ≤ 40 := by have := HQ.out; omega
            have hcall := HREP.out hps w3 HB3.out
            have HCALL := Lib.hid hcall
            have b0 := HK3.out.cell 0; have b1 := HK3.out.cell 1; have b2 := HK3.out.cell 2; have b3 := HK3.out.cell 3; have b4 := HK3.out.cell 4; have b5 := HK3.out.cell 5; have b6 := HK3.out.cell 6
            simp only [List.getElem?_toArray, List.getElem?_cons_zero, List.getElem?_cons_succ] at b0 b1 b2 b3 b4 b5 b6
            clear hcall hq40
            go_wp2_with fail
            refine HCALL.out.mono ?_
            rintro e w4 ⟨r4, hr4, rfl, hb4⟩
            have HB4 := Lib.hid (HB3.out.trans (hb4.mono HB3.out.size)); have HKR4 := Lib.hid (HKR3.out.below hb4 HKR3.out.lt)
            have hr40 : r4 ≤ 40 := by omega
            clear hb4 b0 b1 b2 b3 b4 b5 b6
            go_wp2
            go_roundw
            case rel => exact ⟨1 + 1, x + r4, by omega, by go_num, by go_num, by omega, HKR4.out, HB4.out⟩
            case measure => simp [RowKit.intOf]
          · have hqI : ¬ (q : Int) ≤ 40 := by omega
            clear hq40
            go_wp2
            go_roundw
            case rel => exact ⟨1 + 1, x, by omega, by go_num, rfl, by omega, HKR3.out, HB3.out⟩
            case measure => simp [RowKit.intOf]
      · obtain rfl : j = 2 := by omega
        have hx80 : x ≤ 80 := by omega
        clear hx hj hj2
        by_cases hmx : r ≤ x
        · go_wp2
          go_roundw
          case rel => exact ⟨k + 1, x, by omega, by go_num, by go_num, by omega, HBY.out⟩
          case measure => simp [RowKit.intOf]; omega
        · go_wp2
          go_roundw
          case rel => exact ⟨k + 1, r, by omega, by go_num, by go_num, by omega, HBY.out⟩
          case measure => simp [RowKit.intOf]; omega
end Go.Proofs.YtmepaeahchiglaaGreatDoor

namespace Go.Proofs.YtmepaeahchiglaaGreatDoor
open Go.RowKit Go.Lib

/-- What a gate answers: yes only for short lists. -/
def LightP (w : World) (n : Nat) (on : List (List Int)) (e : Ending) (w' : World) : Prop := (∃ b, e = .returned (.bool b) ∧ (b = true → n ≤ 70 ∧ ∀ l ∈ on, l.length ≤ 70)) ∧ Below w.heap.size w w'
set_option linter.unusedSimpArgs false in
set_option linter.unusedVariables false in
set_option maxRecDepth 20000 in
set_option maxHeartbeats 8000000 in
theorem light25_any (v4 v5 v6 : Value) (B : Nat) (t : List Nd) (laws : List Lw) (on : List (List Int)) (w : World) (h4 : SlC NdC 2 w B t v4) (h5 : SlC LawC 18 w B laws v5) (h6 : SlC OnC 1 w B on v6) (hB : B ≤ w.heap.size) :
    Calls Tryz.prog 27 #[.agg #[v4, v5, v6]] w (LightP w t.length on) := by
  obtain ⟨A4, m4, c4, rfl, e4⟩ := h4.form
  obtain ⟨A5, m5, c5, rfl, e5⟩ := h5.form
  obtain ⟨A6, m6, c6, rfl, e6⟩ := h6.form
  have hm5 := h5.len.2
  unfold maxLen at hm5
  have hb0 := (Below.refl w.heap.size w).alloc (Nat.le_refl _) (.cells #[.slice A4 m4 c4, .slice A5 m5 c5, .slice A6 m6 c6] 29)
  have hk0 := Blk.new w 29 #[.slice A4 m4 c4, .slice A5 m5 c5, .slice A6 m6 c6]
  have hkp := fun (W : World) (hW : Below w.heap.size w W) => fun (p : Addr) (hp : p.block < B) => hW.cell (p := p) (Nat.lt_of_lt_of_le hp hB)
  have HKP := Lib.hid hkp; have H5 := Lib.hid h5; have H6 := Lib.hid h6; have E5 := Lib.hid e5; have E6 := Lib.hid e6; have E4 := Lib.hid e4; have HB0 := Lib.hid hb0; have HK0 := Lib.hid hk0
  have hno : ∀ (W : World), Below w.heap.size w W → LightP w t.length on (.returned (.bool false)) W := fun W hW => ⟨⟨false, rfl, fun h => by cases h⟩, hW⟩
  have HNO := Lib.hid hno
  clear h4 h5 h6 e4 e5 e6 hb0 hk0 hkp hno
  go_enter Tryz.func27, Tryz.ntmps27
  by_cases h1 : 70 < m4
  · have h1I : (70 : Int) < (m4 : Int) := by omega
    go_wp2
    go_ret
    exact HNO.out _ HB0.out
  have h1I : ¬ (70 : Int) < (m4 : Int) := by omega
  by_cases h2 : 70 < m5
  · have h2I : (70 : Int) < (m5 : Int) := by omega
    go_wp2
    go_ret
    exact HNO.out _ HB0.out
  have h2I : ¬ (70 : Int) < (m5 : Int) := by omega
  by_cases h3 : 70 < m6
  · have h3I : (70 : Int) < (m6 : Int) := by omega
    go_wp2
    go_ret
    exact HNO.out _ HB0.out
  have h3I : ¬ (70 : Int) < (m6 : Int) := by omega
  clear h1 h2 h3
  go_wp2
  go_loopw [3] (fun i wr => ∃ k : Nat, k ≤ m6 ∧ i = .int .i64 k ∧ (∀ l ∈ on.take k, l.length ≤ 70) ∧ Blk wr w.heap.size 29 #[.slice A4 m4 c4, .slice A5 m5 c5, .slice A6 m6 c6] ∧ Below w.heap.size w wr) (fun i _ => m6 - (RowKit.intOf i).toNat)
  case atStart => exact ⟨0, by omega, rfl, by simp, HK0.out, HB0.out⟩
  case round =>
    obtain ⟨k, hk, rfl, hall, hbk, hbw⟩ := hrel
    have HALL := Lib.hid hall; have HBK := Lib.hid hbk; have HBW := Lib.hid hbw
    obtain ⟨V, hV⟩ : ∃ W, W = wr := ⟨_, rfl⟩
    subst hV
    clear hall hbk hbw
    have g0 := HBK.out.cell 0; have g1 := HBK.out.cell 1; have g2 := HBK.out.cell 2
    simp only [List.getElem?_toArray, List.getElem?_cons_zero, List.getElem?_cons_succ] at g0 g1 g2
    by_cases hlt : k < m6
    · have hkl : k < on.length := by have := E6.out; omega
      have hkI : (k : Int) < (m6 : Int) := by omega
      have hk0 : (0 : Int) ≤ (k : Int) := by omega
      obtain ⟨ad, cs, hA, had, hP, hcc⟩ := slC_cells onC_len (SlC.plain (HKP.out V HBW.out) H6.out (fun _ _ h => OnC.keep (HKP.out V HBW.out) h)) hkl
      subst hA
      have htk := List.take_succ_eq_append_getElem hkl
      generalize on[k] = x at *
      obtain ⟨vx, rfl, hvx⟩ := hP
      obtain ⟨Ax, nx, cx, rfl, ex⟩ := hvx.form
      have e6 := hcc 0 _ rfl
      rw [Nat.mul_one, Nat.add_zero] at e6
      have HTK := Lib.hid htk; have HEX := Lib.hid ex
      clear htk ex hvx hcc
      by_cases h70 : 70 < nx
      · have h70I : (70 : Int) < (nx : Int) := by omega
        go_wp2
        go_ret
        exact HNO.out _ HBW.out
      · have h70I : ¬ (70 : Int) < (nx : Int) := by omega
        have hnew : ∀ l ∈ on.take (k + 1), l.length ≤ 70 := by
          rw [HTK.out]
          intro l hl
          rcases List.mem_append.1 hl with h | h
          · exact HALL.out l h
          · rw [List.mem_singleton.1 h, ← HEX.out]; omega
        have HNEW := Lib.hid hnew
        clear hnew h70
        go_wp2
        go_roundw
        case rel => exact ⟨k + 1, by omega, by go_num, HNEW.out, HBK.out, HBW.out⟩
        case measure => simp [RowKit.intOf]; omega
    · obtain rfl : m6 = k := by omega
      have hall := HALL.out
      rw [List.take_of_length_le (by rw [E6.out]; exact Nat.le_refl _)] at hall
      have HALL2 := Lib.hid hall
      have HBK0 := HBK; have HBW0 := HBW
      clear hall hlt HALL HBK HBW
      go_wp2
      go_loopw [4] (fun i wr => ∃ k : Nat, k ≤ m5 ∧ i = .int .i64 k ∧ Blk wr w.heap.size 29 #[.slice A4 m4 c4, .slice A5 m5 c5, .slice A6 m6 c6] ∧ Below w.heap.size w wr) (fun i _ => m5 - (RowKit.intOf i).toNat)
      case atStart => exact ⟨0, by omega, rfl, HBK0.out, HBW0.out⟩
      case round =>
        obtain ⟨k, hk, rfl, hbk, hbw⟩ := hrel
        have HBK := Lib.hid hbk; have HBW := Lib.hid hbw
        obtain ⟨V, hV⟩ : ∃ W, W = wr := ⟨_, rfl⟩
        subst hV
        clear hbk hbw g0 g1 g2
        have g0 := HBK.out.cell 0; have g1 := HBK.out.cell 1; have g2 := HBK.out.cell 2
        simp only [List.getElem?_toArray, List.getElem?_cons_zero, List.getElem?_cons_succ] at g0 g1 g2
        by_cases hlt : k < m5
        case neg =>
          obtain rfl : m5 = k := by omega
          go_wp2
          go_ret
          exact ⟨⟨true, rfl, fun _ => ⟨by rw [← E4.out]; omega, HALL2.out⟩⟩, HBW.out⟩
        have hkl : k < laws.length := by have := E5.out; omega
        have hkI : (k : Int) < (m5 : Int) := by omega
        have hk0 : (0 : Int) ≤ (k : Int) := by omega
        obtain ⟨ad, cs, hA, had, hP, hcc⟩ := slC_cells (by intro x cs h; exact law_len h) (SlC.plain (HKP.out V HBW.out) H5.out (fun _ _ h => h.keep (HKP.out V HBW.out))) hkl
        subst hA
        have h18 := law_len hP
        have hone := law_one_ hP
        have hcell : ∀ j u, cs[j]? = some u → V.cell? ((ad.add (k * 18)).add j) = some u := fun j u hu => by rw [add_add]; exact hcc j u hu
        have hsub : SlC LawC 18 V B [laws[k]] (.slice (some (ad.add (k * 18))) 1 (c5 - k)) := ⟨_, _, cs, rfl, ⟨by simp; omega, by unfold maxLen; omega⟩, ⟨by rw [h18]; rfl, fun _ => ⟨_, rfl, by rw [add_block_]; exact had, hcell⟩⟩, ⟨cs, [], by simp, hP, rfl⟩⟩
        have hreps := fun (W : World) (hW : Below V.heap.size V W) => reps_any (some (ad.add (k * 18))) 1 (c5 - k) B [laws[k]] W (SlC.plain (fun p hp => hW.cell (p := p) (by have := HBW.out.size; omega)) hsub (fun _ _ h => h.keep (fun p hp => hW.cell (p := p) (by have := HBW.out.size; omega)))) (by have := HBW.out.size; have := hW.size; omega)
        generalize laws[k] = x at *
        obtain ⟨k1, s1, n1, lo1, hi1, A1, m1, c1, k2, s2, n2, lo2, hi2, A2, m2, c2, A3, c3, A4', c4', hcs, hp1, hp2, -⟩ := hP.form
        obtain ⟨i3, hi3⟩ : ∃ i, x.ifs.length = i := ⟨_, rfl⟩
        obtain ⟨i4, hi4⟩ : ∃ i, x.outs.length = i := ⟨_, rfl⟩
        rw [hi3, hi4] at hcs
        have hcs' : ∀ j : Nat, cs[j]? = (lawL x.name k1 s1 n1 lo1 hi1 A1 m1 c1 k2 s2 n2 lo2 hi2 A2 m2 c2 A3 i3 c3 A4' i4 c4' x.mode)[j]? := fun j => by rw [hcs]
        have hblk := Blk.new V 62 cs.toArray
        have hz := Blk.new V 62 zlaw.toArray
        have hset := setRow_alloc V 62 zlaw.toArray cs.toArray
        have hbx := HBW.out.alloc HBW.out.size (.cells cs.toArray 62)
        have hkx := HBK.out.alloc (.cells cs.toArray 62)
        have hbv := (Below.refl V.heap.size V).alloc (Nat.le_refl _) (.cells cs.toArray 62)
        have hc1 := hreps _ hbv
        have hsz1 := fun (W : World) (hW : Below V.heap.size V W) => refSize_any x.left k1 s1 n1 lo1 hi1 A1 m1 c1 W B (hp1.below (hW.mono (by have := HBW.out.size; omega))) (by have := HBW.out.size; have := hW.size; omega)
        have hsz2 := fun (W : World) (hW : Below V.heap.size V W) => refSize_any x.right k2 s2 n2 lo2 hi2 A2 m2 c2 W B (hp2.below (hW.mono (by have := HBW.out.size; omega))) (by have := HBW.out.size; have := hW.size; omega)
        obtain ⟨q1, hq1⟩ : ∃ q, min (ptSize x.left) 41 = q := ⟨_, rfl⟩
        obtain ⟨q2, hq2⟩ : ∃ q, min (ptSize x.right) 41 = q := ⟨_, rfl⟩
        have hq1' : q1 ≤ 41 := by omega
        have hq2' : q2 ≤ 41 := by omega
        rw [hq1] at hsz1
        rw [hq2] at hsz2
        have gk := hkx.cell 1
        simp only [List.getElem?_toArray, List.getElem?_cons_zero, List.getElem?_cons_succ] at gk
        have h18' : (V.alloc (.cells cs.toArray 62)).heap.size = V.heap.size + 1 := World.size_alloc _ _
        have HBLK := Lib.hid hblk; have HZ := Lib.hid hz; have HSET := Lib.hid hset; have H18 := Lib.hid h18; have HONE := Lib.hid hone; have HCELL := Lib.hid hcell; have HBX := Lib.hid hbx; have HKX := Lib.hid hkx; have HBV := Lib.hid hbv; have HC1 := Lib.hid hc1; have HSZ1 := Lib.hid hsz1; have HSZ2 := Lib.hid hsz2; have HCS := Lib.hid hcs'
        obtain ⟨V1, hV1⟩ : ∃ W, V.alloc (.cells cs.toArray 62) = W := ⟨_, rfl⟩
        have HV1 := Lib.hid hV1
        have gk1 := gk
        rw [hV1] at gk1
        have hkc : (k : Int) + 1 ≤ (c5 : Int) := by omega
        clear hblk hz hset h18 hone hcell hbx hkx hbv hc1 hsz1 hsz2 hcs' hcc hreps hsub hP hp1 hp2 hi3 hi4 hq1 hq2 hcs hV1 h18'
        go_wp2_with (first | (refine law_load_at rfl _ rfl _ rfl cs H18.out HCELL.out ?_; simp only [Act.put, List.setIfInBounds_toArray, List.set_cons_zero, List.set_cons_succ]) | (refine law_store_ rfl _ _ rfl _ rfl cs zlaw rfl H18.out HONE.out HZ.out rfl ?_; rw [HSET.out]; simp only [Act.put, List.setIfInBounds_toArray, List.set_cons_zero, List.set_cons_succ]))
        refine HC1.out.mono ?_
        rintro e w2 ⟨rr, rfl, hb2⟩
        have hszV : V.heap.size < (V.alloc (.cells cs.toArray 62)).heap.size := by rw [World.size_alloc]; omega
        have HBV2 := Lib.hid (HBV.out.trans (hb2.mono HBV.out.size)); have HB2 := Lib.hid (HBX.out.trans (hb2.mono HBX.out.size)); have HK2 := Lib.hid (HKX.out.below hb2 HKX.out.lt); have HL2 := Lib.hid (HBLK.out.below hb2 hszV)
        clear hb2 gk gk1 g0 g1 g2
        have b1 : w2.cell? ⟨V.heap.size, 1, none⟩ = some (.int .i64 k1) := by rw [HL2.out.cell 1, List.getElem?_toArray, HCS.out]; rfl
        have b2 : w2.cell? ⟨V.heap.size, 2, none⟩ = some (.int .u32 s1.1) := by rw [HL2.out.cell 2, List.getElem?_toArray, HCS.out]; rfl
        have b3 : w2.cell? ⟨V.heap.size, 3, none⟩ = some (.int .u32 s1.2) := by rw [HL2.out.cell 3, List.getElem?_toArray, HCS.out]; rfl
        have b4 : w2.cell? ⟨V.heap.size, 4, none⟩ = some (.bool n1) := by rw [HL2.out.cell 4, List.getElem?_toArray, HCS.out]; rfl
        have b5 : w2.cell? ⟨V.heap.size, 5, none⟩ = some (.int .i64 lo1) := by rw [HL2.out.cell 5, List.getElem?_toArray, HCS.out]; rfl
        have b6 : w2.cell? ⟨V.heap.size, 6, none⟩ = some (.int .i64 hi1) := by rw [HL2.out.cell 6, List.getElem?_toArray, HCS.out]; rfl
        have b7 : w2.cell? ⟨V.heap.size, 7, none⟩ = some (.slice A1 m1 c1) := by rw [HL2.out.cell 7, List.getElem?_toArray, HCS.out]; rfl
        have b8 : w2.cell? ⟨V.heap.size, 8, none⟩ = some (.int .i64 k2) := by rw [HL2.out.cell 8, List.getElem?_toArray, HCS.out]; rfl
        have b9 : w2.cell? ⟨V.heap.size, 9, none⟩ = some (.int .u32 s2.1) := by rw [HL2.out.cell 9, List.getElem?_toArray, HCS.out]; rfl
        have b10 : w2.cell? ⟨V.heap.size, 10, none⟩ = some (.int .u32 s2.2) := by rw [HL2.out.cell 10, List.getElem?_toArray, HCS.out]; rfl
        have b11 : w2.cell? ⟨V.heap.size, 11, none⟩ = some (.bool n2) := by rw [HL2.out.cell 11, List.getElem?_toArray, HCS.out]; rfl
        have b12 : w2.cell? ⟨V.heap.size, 12, none⟩ = some (.int .i64 lo2) := by rw [HL2.out.cell 12, List.getElem?_toArray, HCS.out]; rfl
        have b13 : w2.cell? ⟨V.heap.size, 13, none⟩ = some (.int .i64 hi2) := by rw [HL2.out.cell 13, List.getElem?_toArray, HCS.out]; rfl
        have b14 : w2.cell? ⟨V.heap.size, 14, none⟩ = some (.slice A2 m2 c2) := by rw [HL2.out.cell 14, List.getElem?_toArray, HCS.out]; rfl
        have b15 : w2.cell? ⟨V.heap.size, 15, none⟩ = some (.slice A3 i3 c3) := by rw [HL2.out.cell 15, List.getElem?_toArray, HCS.out]; rfl
        have b16 : w2.cell? ⟨V.heap.size, 16, none⟩ = some (.slice A4' i4 c4') := by rw [HL2.out.cell 16, List.getElem?_toArray, HCS.out]; rfl
        by_cases hr4 : 4 < rr
        · have hr4I : (4 : Int) < rr := hr4
          go_wp2
          go_ret
          exact HNO.out _ HB2.out
        have hr4I : ¬ (4 : Int) < rr := hr4
        by_cases hi3 : 20 < i3
        · have hi3I : (20 : Int) < (i3 : Int) := by omega
          go_wp2
          go_ret
          exact HNO.out _ HB2.out
        have hi3I : ¬ (20 : Int) < (i3 : Int) := by omega
        by_cases hi4 : 20 < i4
        · have hi4I : (20 : Int) < (i4 : Int) := by omega
          go_wp2
          go_ret
          exact HNO.out _ HB2.out
        have hi4I : ¬ (20 : Int) < (i4 : Int) := by omega
        have hc2 := HSZ1.out w2 HBV2.out
        have HC2 := Lib.hid hc2
        clear hc2 hi3 hi4 hr4
        go_wp2_with fail
        refine HC2.out.mono ?_
        rintro e w3 ⟨rfl, hb3⟩
        have HBV3 := Lib.hid (HBV2.out.trans (hb3.mono HBV2.out.size)); have HB3 := Lib.hid (HB2.out.trans (hb3.mono HB2.out.size)); have HK3 := Lib.hid (HK2.out.below hb3 HK2.out.lt); have HL3 := Lib.hid (HL2.out.below hb3 HL2.out.lt)
        clear hb3 b1 b2 b3 b4 b5 b6 b7 b8 b9 b10 b11 b12 b13 b14 b15 b16
        have b1 : w3.cell? ⟨V.heap.size, 1, none⟩ = some (.int .i64 k1) := by rw [HL3.out.cell 1, List.getElem?_toArray, HCS.out]; rfl
        have b2 : w3.cell? ⟨V.heap.size, 2, none⟩ = some (.int .u32 s1.1) := by rw [HL3.out.cell 2, List.getElem?_toArray, HCS.out]; rfl
        have b3 : w3.cell? ⟨V.heap.size, 3, none⟩ = some (.int .u32 s1.2) := by rw [HL3.out.cell 3, List.getElem?_toArray, HCS.out]; rfl
        have b4 : w3.cell? ⟨V.heap.size, 4, none⟩ = some (.bool n1) := by rw [HL3.out.cell 4, List.getElem?_toArray, HCS.out]; rfl
        have b5 : w3.cell? ⟨V.heap.size, 5, none⟩ = some (.int .i64 lo1) := by rw [HL3.out.cell 5, List.getElem?_toArray, HCS.out]; rfl
        have b6 : w3.cell? ⟨V.heap.size, 6, none⟩ = some (.int .i64 hi1) := by rw [HL3.out.cell 6, List.getElem?_toArray, HCS.out]; rfl
        have b7 : w3.cell? ⟨V.heap.size, 7, none⟩ = some (.slice A1 m1 c1) := by rw [HL3.out.cell 7, List.getElem?_toArray, HCS.out]; rfl
        have b8 : w3.cell? ⟨V.heap.size, 8, none⟩ = some (.int .i64 k2) := by rw [HL3.out.cell 8, List.getElem?_toArray, HCS.out]; rfl
        have b9 : w3.cell? ⟨V.heap.size, 9, none⟩ = some (.int .u32 s2.1) := by rw [HL3.out.cell 9, List.getElem?_toArray, HCS.out]; rfl
        have b10 : w3.cell? ⟨V.heap.size, 10, none⟩ = some (.int .u32 s2.2) := by rw [HL3.out.cell 10, List.getElem?_toArray, HCS.out]; rfl
        have b11 : w3.cell? ⟨V.heap.size, 11, none⟩ = some (.bool n2) := by rw [HL3.out.cell 11, List.getElem?_toArray, HCS.out]; rfl
        have b12 : w3.cell? ⟨V.heap.size, 12, none⟩ = some (.int .i64 lo2) := by rw [HL3.out.cell 12, List.getElem?_toArray, HCS.out]; rfl
        have b13 : w3.cell? ⟨V.heap.size, 13, none⟩ = some (.int .i64 hi2) := by rw [HL3.out.cell 13, List.getElem?_toArray, HCS.out]; rfl
        have b14 : w3.cell? ⟨V.heap.size, 14, none⟩ = some (.slice A2 m2 c2) := by rw [HL3.out.cell 14, List.getElem?_toArray, HCS.out]; rfl
        have b15 : w3.cell? ⟨V.heap.size, 15, none⟩ = some (.slice A3 i3 c3) := by rw [HL3.out.cell 15, List.getElem?_toArray, HCS.out]; rfl
        have b16 : w3.cell? ⟨V.heap.size, 16, none⟩ = some (.slice A4' i4 c4') := by rw [HL3.out.cell 16, List.getElem?_toArray, HCS.out]; rfl
        have hq1I : ¬ (41 : Int) < (q1 : Int) := by omega
        have hc3 := HSZ2.out w3 HBV3.out
        have HC3 := Lib.hid hc3
        clear hc3
        go_wp2_with fail
        refine HC3.out.mono ?_
        rintro e w4 ⟨rfl, hb4⟩
        have HB4 := Lib.hid (HB3.out.trans (hb4.mono HB3.out.size)); have HK4 := Lib.hid (HK3.out.below hb4 HK3.out.lt)
        have hq2I : ¬ (41 : Int) < (q2 : Int) := by omega
        clear hb4 b1 b2 b3 b4 b5 b6 b7 b8 b9 b10 b11 b12 b13 b14 b15 b16
        go_wp2
        go_roundw
        case rel => exact ⟨k + 1, by omega, by go_num, HK4.out, HB4.out⟩
        case measure => simp [RowKit.intOf]; omega
end Go.Proofs.YtmepaeahchiglaaGreatDoor
namespace Go.Proofs.YtmepaeahchiglaaGreatDoor
open Go.RowKit Go.Lib

/-- A call that answers some bool. -/
def SomeB (w : World) (e : Ending) (w' : World) : Prop := (∃ b, e = .returned (.bool b)) ∧ Below w.heap.size w w'
theorem SomeB.of {w w' : World} (b : Bool) (h : Below w.heap.size w w') : SomeB w (.returned (.bool b)) w' := ⟨⟨b, rfl⟩, h⟩
set_option linter.unusedSimpArgs false in
set_option linter.unusedVariables false in
set_option maxRecDepth 20000 in
set_option maxHeartbeats 4000000 in
theorem lightLaw_any (w : World) (B : Nat) (x : Lw) (cs : List Value) (hl : LawC w B x cs) :
    Calls Tryz.prog 29 #[.agg cs.toArray] w (SomeB w) := by
  obtain ⟨k1, s1, n1, lo1, hi1, A1, m1, c1, k2, s2, n2, lo2, hi2, A2, m2, c2, A3, c3, A4', c4', rfl, -⟩ := hl.form
  clear hl
  generalize x.name = nm at *
  generalize x.ifs.length = i3 at *
  generalize x.outs.length = i4 at *
  generalize x.mode = mode at *
  show Calls _ _ #[.agg #[.string nm, .int .i64 k1, .int .u32 s1.1, .int .u32 s1.2, .bool n1, .int .i64 lo1, .int .i64 hi1, .slice A1 m1 c1, .int .i64 k2, .int .u32 s2.1, .int .u32 s2.2, .bool n2, .int .i64 lo2, .int .i64 hi2, .slice A2 m2 c2, .slice A3 i3 c3, .slice A4' i4 c4', .int .i64 mode]] _ _
  have hb0 := (Below.refl w.heap.size w).alloc (Nat.le_refl _) (.cells #[.string nm, .int .i64 k1, .int .u32 s1.1, .int .u32 s1.2, .bool n1, .int .i64 lo1, .int .i64 hi1, .slice A1 m1 c1, .int .i64 k2, .int .u32 s2.1, .int .u32 s2.2, .bool n2, .int .i64 lo2, .int .i64 hi2, .slice A2 m2 c2, .slice A3 i3 c3, .slice A4' i4 c4', .int .i64 mode] 62)
  have HB0 := Lib.hid hb0
  clear hb0
  go_enter Tryz.func29, Tryz.ntmps29
  by_cases h1 : nm.size ≤ 300
  · have h1I : (nm.size : Int) ≤ 300 := by omega
    by_cases h2 : i3 ≤ 50
    · have h2I : (i3 : Int) ≤ 50 := by omega
      go_wp2
      go_ret
      exact SomeB.of _ HB0.out
    · have h2I : ¬ (i3 : Int) ≤ 50 := by omega
      go_wp2
      go_ret
      exact SomeB.of _ HB0.out
  · have h1I : ¬ (nm.size : Int) ≤ 300 := by omega
    go_wp2
    go_ret
    exact SomeB.of _ HB0.out
set_option linter.unusedSimpArgs false in
set_option maxRecDepth 20000 in
set_option maxHeartbeats 4000000 in
theorem longS_any (A : Option Addr) (n c B : Nat) (l : List ByteArray) (w : World) (hr : ReadS w B A n l) (hB : B ≤ w.heap.size) (hn : n ≤ maxLen) :
    Calls Tryz.prog 31 #[.slice A n c, .func (.func 32) #[] #[]] w (SomeB w) := by
  unfold maxLen at hn
  have hl := hr.len
  have hidx : Calls Tryz.prog 82 #[.slice A n c, .func (.func 32) #[] #[]] w fun e w' => (∃ r : Int, e = .returned (.int .i64 r)) ∧ Below w.heap.size w w' := by
    have HR := Lib.hid hr
    clear hr
    go_enter Tryz.func82, Tryz.ntmps82
    go_wp2
    go_loopw [8] (fun i wr => ∃ k : Nat, k ≤ n ∧ i = .int .i64 k ∧ Below w.heap.size w wr) (fun i _ => n - (RowKit.intOf i).toNat)
    case atStart => exact ⟨0, by omega, rfl, Below.refl _ _⟩
    case round =>
      obtain ⟨k, hk, rfl, hb⟩ := hrel
      have HB := Lib.hid hb
      clear hb
      by_cases hlt : k < n
      · have hkI : (k : Int) < (n : Int) := by omega
        have hk0 : (0 : Int) ≤ (k : Int) := by omega
        obtain ⟨ad, rfl, had, hc⟩ := ReadS.at_ (k := k) (Reads.below HR.out (HB.out.mono hB)) (by omega)
        generalize l[k] = s at *
        have hcl : Calls Tryz.prog 32 #[.string s] wr fun e w' => (∃ b, e = .returned (.bool b)) ∧ wr = w' := by
          go_enter Tryz.func32, Tryz.ntmps32
          go_wp2
          go_ret
          exact ⟨⟨_, rfl⟩, rfl⟩
        have HCL := Lib.hid hcl
        clear hcl
        go_wp2_with fail
        refine HCL.out.mono ?_
        rintro e w2 ⟨⟨b, rfl⟩, rfl⟩
        cases b with
        | true =>
          go_wp2
          go_ret
          exact ⟨⟨_, rfl⟩, HB.out⟩
        | false =>
          go_wp2
          go_roundw
          case rel => exact ⟨k + 1, by omega, by go_num, HB.out⟩
          case measure => simp [RowKit.intOf]; omega
      · obtain rfl : n = k := by omega
        go_wp2
        go_ret
        exact ⟨⟨_, rfl⟩, HB.out⟩
  have HI := Lib.hid hidx
  clear hidx hr hl
  go_enter Tryz.func31, Tryz.ntmps31
  go_wp2_with fail
  refine HI.out.mono ?_
  rintro e w2 ⟨⟨r, rfl⟩, hb2⟩
  have HB2 := Lib.hid hb2
  clear hb2
  go_wp2
  go_ret
  exact SomeB.of _ HB2.out
end Go.Proofs.YtmepaeahchiglaaGreatDoor
namespace Go.Proofs.YtmepaeahchiglaaGreatDoor
open Go.RowKit Go.Lib

set_option maxRecDepth 20000 in
set_option maxHeartbeats 1000000 in
theorem cloneF_any (A : Option Addr) (n c : Nat) (xs : List Value) (w : World) (K : Nat) (hr : Reads w K 2 A n xs) (h1 : ∀ u ∈ xs, u.oneCell' = true) (hK : K ≤ w.heap.size) (hn : n ≤ 100000) :
    Calls Tryz.prog 30 #[.slice A n c] w fun e w' => ∃ v, e = .returned v ∧ w'.ownsRow w.heap.size 82 2 v n xs ∧ Below w.heap.size w w' := by
  obtain ⟨i0, hi, hz0, hz1, hz2⟩ := info_parts (show (Tryz.prog.info? 82).map (fun i => (i.zero, i.size, i.bytes)) = some (some (.agg #[.bool false, .slice none 0 0]), 2, 32) by kernel_rfl)
  have hl := hr.1
  have hnil := fun (W : World) (a : Option Addr) (n c : Nat) => Lib.run_eql_slice_nil (P := Tryz.prog) W 30 82 a n c 0 0 Tryz.underlying30
  rcases A with _ | ad
  · have h0 : n = 0 := by
      rcases Nat.eq_zero_or_pos n with h | h
      · exact h
      · obtain ⟨_, h', _⟩ := hr.2 h; cases h'
    subst h0
    obtain rfl : xs = [] := List.eq_nil_of_length_eq_zero (by omega)
    clear hl
    go_enter Tryz.func30, Tryz.ntmps30
    go_wp2
    go_ret
    exact ⟨_, rfl, World.ownsRow_nil _ _ _ _, Below.refl _ _⟩
  · have hown := own_empty04 w 82 2
    have hr' := (hr.more hK).alloc (Nat.le_refl _) (.cells #[] 82)
    clear hl
    go_enter Tryz.func30, Tryz.ntmps30
    go_wp2_with (at_builtin; refine wpList_append_any _ rfl _ _ _ rfl w.heap.size 82 i0 (.agg #[.bool false, .slice none 0 0]) 2 32 Tryz.underlying30 hi hz0 hz1 hz2 rfl (by decide) _ _ _ rfl hown w.heap.size _ _ _ xs rfl hr' h1 (by unfold maxLen; omega) (by omega) (by simp) ?_; intro v' w1 hown' hgrow _)
    have hb1 : Below w.heap.size w w1 := ((Below.refl _ w).alloc (Nat.le_refl _) _).grown hgrow (by simp) (fun g hg => (hown.lt g hg).1)
    clear hgrow
    go_ret
    exact ⟨_, rfl, by simpa using hown', hb1⟩
set_option maxRecDepth 20000 in
set_option maxHeartbeats 1000000 in
/-- A form's cells. -/
abbrev FmV := Bool × Option Addr × Nat × Nat
abbrev fmC (x : FmV) : List Value := [.bool x.1, .slice x.2.1 x.2.2.1 x.2.2.2]
set_option linter.unusedSimpArgs false in
set_option maxRecDepth 20000 in
set_option maxHeartbeats 4000000 in
theorem longF_any (A : Option Addr) (n c B : Nat) (l : List FmV) (w : World) (hr : Reads w B 2 A n (l.flatMap fmC)) (hB : B ≤ w.heap.size) (hn : n ≤ maxLen) :
    Calls Tryz.prog 33 #[.slice A n c, .func (.func 34) #[] #[]] w (SomeB w) := by
  unfold maxLen at hn
  have hl := hr.len_of (fun _ => rfl) (by decide)
  have hidx : Calls Tryz.prog 83 #[.slice A n c, .func (.func 34) #[] #[]] w fun e w' => (∃ r : Int, e = .returned (.int .i64 r)) ∧ Below w.heap.size w w' := by
    have HR := Lib.hid hr
    clear hr
    go_enter Tryz.func83, Tryz.ntmps83
    go_wp2
    go_loopw [8] (fun i wr => ∃ k : Nat, k ≤ n ∧ i = .int .i64 k ∧ Below w.heap.size w wr) (fun i _ => n - (RowKit.intOf i).toNat)
    case atStart => exact ⟨0, by omega, rfl, Below.refl _ _⟩
    case round =>
      obtain ⟨k, hk, rfl, hb⟩ := hrel
      have HB := Lib.hid hb
      clear hb
      by_cases hlt : k < n
      · have hkI : (k : Int) < (n : Int) := by omega
        have hk0 : (0 : Int) ≤ (k : Int) := by omega
        obtain ⟨ad, e, had, hcc⟩ := (Reads.below HR.out (HB.out.mono hB)).row (fun _ => rfl) (by decide) (i := k) (by omega)
        subst e
        have e0 := hcc 0 _ rfl
        have e1 := hcc 1 _ rfl
        rw [Nat.add_zero] at e0
        rw [add_next ad (k * 2) 0] at e1
        generalize l[k] = x at *
        obtain ⟨bb, Ax, nx, cx⟩ := x
        simp only [] at *
        have hcl : Calls Tryz.prog 34 #[.agg #[.bool bb, .slice Ax nx cx]] wr fun e w' => (∃ b, e = .returned (.bool b)) ∧ Below wr.heap.size wr w' := by
          have hb1 := (Below.refl wr.heap.size wr).alloc (Nat.le_refl _) (.cells #[.bool bb, .slice Ax nx cx] 82)
          have HB1 := Lib.hid hb1
          clear hcc e0 e1 hb1
          go_enter Tryz.func34, Tryz.ntmps34
          go_wp2
          go_ret
          exact ⟨⟨_, rfl⟩, HB1.out⟩
        clear hcc
        have HCL := Lib.hid hcl
        clear hcl
        go_wp2_with fail
        refine HCL.out.mono ?_
        rintro e w2 ⟨⟨b, rfl⟩, hb2⟩
        have HB2 := Lib.hid (HB.out.trans (hb2.mono HB.out.size))
        clear hb2
        cases b with
        | true =>
          go_wp2
          go_ret
          exact ⟨⟨_, rfl⟩, HB2.out⟩
        | false =>
          go_wp2
          go_roundw
          case rel => exact ⟨k + 1, by omega, by go_num, HB2.out⟩
          case measure => simp [RowKit.intOf]; omega
      · obtain rfl : n = k := by omega
        go_wp2
        go_ret
        exact ⟨⟨_, rfl⟩, HB.out⟩
  have HI := Lib.hid hidx
  clear hidx hr hl
  go_enter Tryz.func33, Tryz.ntmps33
  go_wp2_with fail
  refine HI.out.mono ?_
  rintro e w2 ⟨⟨r, rfl⟩, hb2⟩
  have HB2 := Lib.hid hb2
  clear hb2
  go_wp2
  go_ret
  exact SomeB.of _ HB2.out
end Go.Proofs.YtmepaeahchiglaaGreatDoor
namespace Go.Proofs.YtmepaeahchiglaaGreatDoor
open Go.RowKit Go.Lib

theorem plainC_len {α : Type} {f : α → List Value} {m : Nat} (h : ∀ x, (f x).length = m) {w : World} {B : Nat} : ∀ x cs, PlainC f w B x cs → cs.length = m := fun x cs e => by rw [show cs = f x from e]; exact h x

/-- The list of texts and the call's box. -/
structure TS (w wr : World) (cs : Array Value) (v : Value) (n : Nat) : Prop where
  own : ∃ ss : List ByteArray, ss.length = n ∧ wr.ownsRow w.heap.size 9 1 v n (ss.map Value.string)
  box : Blk wr w.heap.size 33 cs
  bel : Below w.heap.size w wr
theorem TS.call {w wr w2 : World} {cs : Array Value} {v : Value} {n : Nat} (h : TS w wr cs v n) (hb : Below wr.heap.size wr w2) : TS w w2 cs v n := by
  obtain ⟨⟨ss, h1, h2⟩, h3, h4⟩ := h
  exact ⟨⟨ss, h1, own_below h2 hb⟩, h3.below hb h3.lt, h4.trans (hb.mono h4.size)⟩
theorem TS.append {w w2 : World} {cs : Array Value} {v : Value} {n : Nat} {ops : Array Oper} {rest : List Oper} {o : Oper} {a : Act} {Q : Exit → Act → World → Prop} (hgd : o.guard = none) (s x : Operand)
    (ho : o.op = .call { callee := .builtin .append, args := #[s, x], argTypes := #[22, 22] })
    (h : TS w w2 cs v n) (hs : a.eval s = v) (d c : Nat) (sy : ByteArray) (hx : a.eval x = .slice (some ⟨d, 0, none⟩) 1 c) (hd : w2.cell? ⟨d, 0, none⟩ = some (.string sy))
    (hlen : n ≤ 100000)
    (hk : ∀ v' w', TS w w' cs v' (n + 1) → w2.grownBy w' v.ownBlock → wpList Tryz.prog ops Q rest (a.put o.dst v') w') : wpList Tryz.prog ops Q (o :: rest) a w2 := by
  obtain ⟨i0, hi, hz0, hz1, hz2⟩ := info_parts (show (Tryz.prog.info? 9).map (fun i => (i.zero, i.size, i.bytes)) = some (some (.string ByteArray.empty), 1, 16) by kernel_rfl)
  obtain ⟨⟨ss, h1, h2⟩, h3, h4⟩ := h
  have hne := own_blk_ne h2 h3 (by decide)
  have hdl : d < w2.heap.size := by
    unfold World.cell? at hd
    cases hq : w2.heap[d]? with
    | none => simp [hq] at hd
    | some o => exact (Array.getElem?_eq_some_iff.1 hq).1
  have hrd : Reads w2 w2.heap.size 1 (some ⟨d, 0, none⟩) 1 [.string sy] := ⟨rfl, fun _ => ⟨_, rfl, hdl, fun j u hu => by
    cases j with
    | zero => rw [add_at]; simpa using hd.trans hu
    | succ j => simp at hu⟩⟩
  refine wpList_append_any w2 hgd s x 22 ho w.heap.size 9 i0 (.string ByteArray.empty) 1 16 Tryz.underlying22 hi hz0 hz1 hz2 rfl (by decide) v n _ hs h2 w2.heap.size _ 1 c [.string sy] hx hrd (by simp [Value.oneCell']) (by unfold maxLen; omega) (by omega) h4.size ?_
  intro v' w' k1 k2 k3
  exact hk v' w' ⟨⟨ss ++ [sy], by rw [List.length_append, h1]; rfl, by rw [List.map_append]; exact k1⟩, h3.grown k2 (fun e => hne e.symm), h4.grown k2 h4.size (fun g hg => (h2.lt g hg).1)⟩ k2
structure FS (w wr : World) (v : Value) (n : Nat) : Prop where
  own : ∃ fl : List FmV, fl.length = n ∧ wr.ownsRow w.heap.size 82 2 v n (fl.flatMap fmC)
theorem FS.call {w wr w2 : World} {v : Value} {n : Nat} (h : FS w wr v n) (hb : Below wr.heap.size wr w2) : FS w w2 v n := by
  obtain ⟨⟨fl, h1, h2⟩⟩ := h
  exact ⟨⟨fl, h1, own_below' h2 hb⟩⟩
theorem FS.grown {w w2 w' : World} {cs : Array Value} {v f : Value} {n m : Nat} (h : FS w w2 f m) (ht : TS w w2 cs v n) (hg : w2.grownBy w' v.ownBlock) : FS w w' f m := by
  obtain ⟨⟨fl, h1, h2⟩⟩ := h
  obtain ⟨ss, -, h3⟩ := ht.own
  exact ⟨⟨fl, h1, h2.kept hg (own_own_ne h2 h3 (by decide))⟩⟩
theorem TS.keeps {w w2 w' : World} {cs cs2 : Array Value} {v : Value} {n g : Nat} {t : TypeId} (h : TS w w2 cs v n) (hg : w2.grownBy w' v.ownBlock) (hb : Blk w2 g t cs2) (ht : 9 ≠ t) : Blk w' g t cs2 := by
  obtain ⟨ss, -, h3⟩ := h.own
  exact hb.grown hg (fun e => own_blk_ne h3 hb ht e.symm)
theorem FS.append {w w2 : World} {cs : Array Value} {v f : Value} {n m : Nat} {ops : Array Oper} {rest : List Oper} {o : Oper} {a : Act} {Q : Exit → Act → World → Prop} (hgd : o.guard = none) (s x : Operand)
    (ho : o.op = .call { callee := .builtin .append, args := #[s, x], argTypes := #[30, 30] })
    (h : FS w w2 f m) (ht : TS w w2 cs v n) (hs : a.eval s = f) (A : Option Addr) (k c : Nat) (fl2 : List FmV) (hx : a.eval x = .slice A k c) (hr : Reads w2 w2.heap.size 2 A k (fl2.flatMap fmC))
    (hlen : m + k ≤ 100000)
    (hk : ∀ v' w', FS w w' v' (m + k) → TS w w' cs v n → wpList Tryz.prog ops Q rest (a.put o.dst v') w') : wpList Tryz.prog ops Q (o :: rest) a w2 := by
  obtain ⟨i0, hi, hz0, hz1, hz2⟩ := info_parts (show (Tryz.prog.info? 82).map (fun i => (i.zero, i.size, i.bytes)) = some (some (.agg #[.bool false, .slice none 0 0]), 2, 32) by kernel_rfl)
  obtain ⟨⟨fl, h1, h2⟩⟩ := h
  have hkl := hr.len_of (fun _ => rfl) (by decide)
  refine wpList_append_any w2 hgd s x 30 ho w.heap.size 82 i0 (.agg #[.bool false, .slice none 0 0]) 2 32 Tryz.underlying30 hi hz0 hz1 hz2 rfl (by decide) f m _ hs h2 w2.heap.size A k c (fl2.flatMap fmC) hx hr (by intro u hu; obtain ⟨f, _, hf⟩ := List.mem_flatMap.1 hu; simp only [List.mem_cons, List.not_mem_nil, or_false] at hf; rcases hf with rfl | rfl <;> rfl) (by unfold maxLen; omega) (by omega) ht.bel.size ?_
  intro v' w' k1 k2 k3
  obtain ⟨ss, h3, h4⟩ := ht.own
  refine hk v' w' ⟨⟨fl ++ fl2, by rw [List.length_append, h1, hkl], by rw [List.flatMap_append]; exact k1⟩⟩ ⟨⟨ss, h3, h4.kept k2 (own_own_ne h4 h2 (by decide))⟩, ht.box.grown k2 (fun e => own_blk_ne h2 ht.box (by decide) e.symm), ht.bel.grown k2 ht.bel.size (fun g hg => (h2.lt g hg).1)⟩
theorem rows_forms {w : World} {B : Nat} : ∀ {l : List Fm} {xs : List Value}, RowsC FormC w B l xs → ∃ fl : List FmV, xs = fl.flatMap fmC ∧ fl.length = l.length
  | [], _, h => ⟨[], h, rfl⟩
  | f :: l, _, ⟨c1, c2, e, ⟨v, h1, h2⟩, h3⟩ => by
    obtain ⟨A, n, c, rfl, -⟩ := h2.form
    obtain ⟨fl, h4, h5⟩ := rows_forms h3
    exact ⟨(f.has, A, n, c) :: fl, by rw [e, h1, h4]; rfl, by simp [h5]⟩
theorem forms_cells {w : World} {B : Nat} {l : List Fm} {v : Value} (h : SlC FormC 2 w B l v) : ∃ A n c, v = .slice A n c ∧ ∃ xs, Reads w B 2 A n xs ∧ ∃ fl : List FmV, xs = fl.flatMap fmC ∧ n = fl.length := by
  obtain ⟨A, c, xs, rfl, -, h2, h3⟩ := h
  obtain ⟨fl, h4, h5⟩ := rows_forms h3
  exact ⟨A, _, c, rfl, xs, h2, fl, h4, h5.symm⟩
set_option linter.unnecessarySimpa false in
set_option linter.unusedSimpArgs false in
set_option linter.unusedVariables false in
set_option maxRecDepth 20000 in
set_option maxHeartbeats 8000000 in
theorem light_any (w : World) (B : Nat) (p : Pj) (cs : List Value) (hp : ProjC w B p cs) (hB : B ≤ w.heap.size) :
    Calls Tryz.prog 8 #[.agg cs.toArray] w (LightP w p.tree.length p.on) := by
  obtain ⟨v1, v2, v3, v4, v5, v6, v7, v8, rfl, q1, q2, q3, q4, q5, q6, q7, q8⟩ := hp
  obtain ⟨A1, m1, c1, rfl, e1⟩ := q1.form
  obtain ⟨A2, m2, c2, rfl, e2⟩ := q2.form
  obtain ⟨A3, m3, c3, rfl, e3⟩ := q3.form
  obtain ⟨A4, m4, c4, rfl, e4⟩ := q4.form
  obtain ⟨A5, m5, c5, rfl, e5⟩ := q5.form
  obtain ⟨A6, m6, c6, rfl, e6⟩ := q6.form
  obtain ⟨A7, m7, c7, rfl, e7⟩ := q7.form
  obtain ⟨A8, m8, c8, rfl, e8⟩ := q8.form
  obtain ⟨o, ho⟩ : ∃ o, Obj.cells #[.slice A1 m1 c1, .slice A2 m2 c2, .slice A3 m3 c3, .slice A4 m4 c4, .slice A5 m5 c5, .slice A6 m6 c6, .slice A7 m7 c7, .slice A8 m8 c8] 33 = o := ⟨_, rfl⟩
  have hb0 := (Below.refl w.heap.size w).alloc (Nat.le_refl _) o
  have hk0 : Blk (w.alloc o) w.heap.size 33 #[.slice A1 m1 c1, .slice A2 m2 c2, .slice A3 m3 c3, .slice A4 m4 c4, .slice A5 m5 c5, .slice A6 m6 c6, .slice A7 m7 c7, .slice A8 m8 c8] := by rw [← ho]; exact Blk.new w _ _
  have hle1 : w.heap.size ≤ (w.alloc o).heap.size := by rw [World.size_alloc]; omega
  have hlt1 : w.heap.size < (w.alloc o).heap.size := by rw [World.size_alloc]; omega
  have hkp := fun (W : World) (hW : Below w.heap.size w W) => fun (q : Addr) (hq : q.block < B) => hW.cell (p := q) (Nat.lt_of_lt_of_le hq hB)
  have hno : ∀ (W : World), Below w.heap.size w W → LightP w p.tree.length p.on (.returned (.bool false)) W := fun W hW => ⟨⟨false, rfl, fun h => by cases h⟩, hW⟩
  have hl25 := light25_any _ _ _ B p.tree p.laws p.on (w.alloc o) (SlC.plain (hkp _ hb0) q4 (fun _ _ h => h)) (SlC.plain (hkp _ hb0) q5 (fun _ _ h => h.keep (hkp _ hb0))) (SlC.plain (hkp _ hb0) q6 (fun _ _ h => OnC.keep (hkp _ hb0) h)) (Nat.le_trans hB hle1)
  obtain ⟨A1', c1', hv1, ⟨h11, h12⟩, r1⟩ := q1.flat
  injection hv1 with hv1a hv1b hv1c
  subst hv1a hv1c
  rw [flatMap_one, ← e1] at r1
  have hclone := fun (W : World) (hW : Below w.heap.size w W) (hm : m1 ≤ 100000) => cloneS_any A1 m1 c1 (p.feats.map Value.string) W B (r1.below (hW.mono hB)) (by intro u hu; obtain ⟨s, _, rfl⟩ := List.mem_map.1 hu; rfl) (Nat.le_trans hB hW.size) hm
  have HO := Lib.hid ho; have HB0 := Lib.hid hb0; have HK0 := Lib.hid hk0; have HKP := Lib.hid hkp; have HNO := Lib.hid hno; have HL25 := Lib.hid hl25; have HCLONE := Lib.hid hclone; have HBB := Lib.hid hB
  have E1 := Lib.hid e1; have E2 := Lib.hid e2; have E3 := Lib.hid e3; have E4 := Lib.hid e4; have E5 := Lib.hid e5; have E7 := Lib.hid e7; have E8 := Lib.hid e8
  have HQ2 := Lib.hid q2; have HQ3 := Lib.hid q3; have HQ4 := Lib.hid q4; have HQ5 := Lib.hid q5; have HQ7 := Lib.hid q7; have HQ8 := Lib.hid q8
  have hm4' := q4.len.2; have hm5' := q5.len.2
  unfold maxLen at hm4' hm5'
  have g0 := hk0.cell 0; have g1 := hk0.cell 1; have g2 := hk0.cell 2; have g3 := hk0.cell 3; have g4 := hk0.cell 4; have g5 := hk0.cell 5; have g6 := hk0.cell 6; have g7 := hk0.cell 7
  simp only [List.getElem?_toArray, List.getElem?_cons_zero, List.getElem?_cons_succ] at g0 g1 g2 g3 g4 g5 g6 g7
  clear q1 q2 q3 q4 q5 q6 q7 q8 e1 e2 e3 e4 e5 e6 e7 e8 ho hb0 hk0 hkp hno hl25 hclone r1 h11 h12 hB hv1b
  go_enter Tryz.func8, Tryz.ntmps8
  by_cases h0 : 40 < m1
  · have h0I : (40 : Int) < (m1 : Int) := by omega
    go_wp2_with (rw [HO.out])
    go_ret
    exact HNO.out _ HB0.out
  have h0I : ¬ (40 : Int) < (m1 : Int) := by omega
  by_cases h1 : 300 < m2
  · have h1I : (300 : Int) < (m2 : Int) := by omega
    go_wp2_with (rw [HO.out])
    go_ret
    exact HNO.out _ HB0.out
  have h1I : ¬ (300 : Int) < (m2 : Int) := by omega
  by_cases h2 : 40 < m3
  · have h2I : (40 : Int) < (m3 : Int) := by omega
    go_wp2_with (rw [HO.out])
    go_ret
    exact HNO.out _ HB0.out
  have h2I : ¬ (40 : Int) < (m3 : Int) := by omega
  by_cases h3 : 300 < m7
  · have h3I : (300 : Int) < (m7 : Int) := by omega
    go_wp2_with (rw [HO.out])
    go_ret
    exact HNO.out _ HB0.out
  have h3I : ¬ (300 : Int) < (m7 : Int) := by omega
  by_cases h4 : 300 < m8
  · have h4I : (300 : Int) < (m8 : Int) := by omega
    go_wp2_with (rw [HO.out])
    go_ret
    exact HNO.out _ HB0.out
  have h4I : ¬ (300 : Int) < (m8 : Int) := by omega
  go_wp2_with (rw [HO.out])
  refine HL25.out.mono ?_
  rintro e w1 ⟨⟨b, rfl, hbon⟩, hb1⟩
  have HB1 := Lib.hid (HB0.out.trans (hb1.mono hle1)); have HK1 := Lib.hid (HK0.out.below hb1 hlt1)
  have HBON := Lib.hid hbon
  clear hb1 hbon g0 g1 g2 g3 g4 g5 g6 g7
  have g0 := HK1.out.cell 0; have g1 := HK1.out.cell 1; have g2 := HK1.out.cell 2; have g3 := HK1.out.cell 3; have g4 := HK1.out.cell 4; have g5 := HK1.out.cell 5; have g6 := HK1.out.cell 6; have g7 := HK1.out.cell 7
  simp only [List.getElem?_toArray, List.getElem?_cons_zero, List.getElem?_cons_succ] at g0 g1 g2 g3 g4 g5 g6 g7
  cases b with
  | false =>
    go_wp2
    go_ret
    exact HNO.out _ HB1.out
  | true =>
    have HYES : Hid (∀ (b : Bool) (W : World), Below w.heap.size w W → LightP w p.tree.length p.on (.returned (.bool b)) W) := Lib.hid (fun b W hW => ⟨⟨b, rfl, fun _ => HBON.out rfl⟩, hW⟩)
    have hm70 : m4 ≤ 70 := by have := (HBON.out rfl).1; have := E4.out; omega
    have hcl := HCLONE.out w1 HB1.out (by omega)
    have HCL := Lib.hid hcl
    clear hcl
    go_wp2_with fail
    refine HCL.out.mono ?_
    rintro e w2 ⟨v2, rfl, ho2, hb2⟩
    have HT1 : Hid (TS w w2 #[.slice A1 m1 c1, .slice A2 m2 c2, .slice A3 m3 c3, .slice A4 m4 c4, .slice A5 m5 c5, .slice A6 m6 c6, .slice A7 m7 c7, .slice A8 m8 c8] v2 m1) := Lib.hid ⟨⟨p.feats, E1.out.symm, own_mono ho2 HB1.out.size⟩, HK1.out.below hb2 HK1.out.lt, HB1.out.trans (hb2.mono HB1.out.size)⟩
    clear ho2 hb2 g0 g1 g2 g3 g4 g5 g6 g7
    have g0 := HT1.out.box.cell 0
    have g1 := HT1.out.box.cell 1
    have g2 := HT1.out.box.cell 2
    have g3 := HT1.out.box.cell 3
    have g4 := HT1.out.box.cell 4
    have g5 := HT1.out.box.cell 5
    have g6 := HT1.out.box.cell 6
    have g7 := HT1.out.box.cell 7
    simp only [List.getElem?_toArray, List.getElem?_cons_zero, List.getElem?_cons_succ] at g0 g1 g2 g3 g4 g5 g6 g7
    go_wp2
    go_loopw [3, 56] (fun v i wr => ∃ (k N : Nat), k ≤ m2 ∧ i = .int .i64 k ∧ TS w wr #[.slice A1 m1 c1, .slice A2 m2 c2, .slice A3 m3 c3, .slice A4 m4 c4, .slice A5 m5 c5, .slice A6 m6 c6, .slice A7 m7 c7, .slice A8 m8 c8] v N ∧ N ≤ 40 + k) (fun _ i _ => m2 - (RowKit.intOf i).toNat)
    case atStart => exact ⟨0, _, by omega, rfl, HT1.out, by omega⟩
    case round =>
      obtain ⟨k, N, hk, rfl, hts, hN⟩ := hrel
      have HTS := Lib.hid hts
      obtain ⟨V, hV⟩ : ∃ W, W = wr := ⟨_, rfl⟩
      subst hV
      clear hts g0 g1 g2 g3 g4 g5 g6 g7
      have g0 := HTS.out.box.cell 0
      have g1 := HTS.out.box.cell 1
      have g2 := HTS.out.box.cell 2
      have g3 := HTS.out.box.cell 3
      have g4 := HTS.out.box.cell 4
      have g5 := HTS.out.box.cell 5
      have g6 := HTS.out.box.cell 6
      have g7 := HTS.out.box.cell 7
      simp only [List.getElem?_toArray, List.getElem?_cons_zero, List.getElem?_cons_succ] at g0 g1 g2 g3 g4 g5 g6 g7
      by_cases hlt : k < m2
      · have hkI : (k : Int) < (m2 : Int) := by omega
        have hk0 : (0 : Int) ≤ (k : Int) := by omega
        obtain ⟨ad, cs, hA, had, hP, hcc⟩ := slC_cells (plainC_len (f := namC) (m := 3) fun _ => rfl) (SlC.plain (HKP.out V HTS.out.bel) HQ2.out (fun _ _ h => h)) (i := k) (by have := E2.out; omega)
        subst hA
        generalize p.sounds[k]'(by have := E2.out; omega) = x at *
        obtain ⟨sy, sv, sa⟩ := x
        obtain rfl : cs = [.string sy, .int .u32 sv, .int .u32 sa] := hP
        have e0 := hcc 0 _ rfl
        have e1 := hcc 1 _ rfl
        have e2 := hcc 2 _ rfl
        rw [Nat.add_zero] at e0
        rw [add_next ad (k * 3) 0] at e1
        rw [add_next ad (k * 3) 1] at e2
        clear hcc
        have hal := (Below.refl V.heap.size V).alloc (Nat.le_refl _) (.cells #[.string sy, .int .u32 sv, .int .u32 sa] 74)
        have h2 := hal.alloc hal.size (.cells #[.string sy] 9)
        have hts2 := HTS.out.call h2
        have hd : ((V.alloc (.cells #[.string sy, .int .u32 sv, .int .u32 sa] 74)).alloc (.cells #[.string sy] 9)).cell? ⟨V.heap.size + 1, 0, none⟩ = some (.string sy) := by
          have := (Blk.new (V.alloc (.cells #[.string sy, .int .u32 sv, .int .u32 sa] 74)) 9 #[.string sy]).cell 0
          rw [World.size_alloc] at this
          simpa using this
        have HTS2 := Lib.hid hts2; have HD := Lib.hid hd
        clear hal h2 hts2 hd
        go_wp2_with (at_builtin; refine TS.append rfl _ _ rfl HTS2.out rfl _ _ sy rfl HD.out (by omega) ?_; intro v3 w3 hts3 hg3; have HTS3 := Lib.hid hts3; clear hts3 hg3)
        go_roundw
        case rel => exact ⟨k + 1, N + 1, by omega, by go_num, HTS3.out, by omega⟩
        case measure => simp [RowKit.intOf]; omega
      · obtain rfl : m2 = k := by omega
        have HT2 := HTS; have hN2 := hN
        clear HTS hlt hN
        go_wp2
        go_loopw [3, 69] (fun v i wr => ∃ (k N : Nat), k ≤ m3 ∧ i = .int .i64 k ∧ TS w wr #[.slice A1 m1 c1, .slice A2 m2 c2, .slice A3 m3 c3, .slice A4 m4 c4, .slice A5 m5 c5, .slice A6 m6 c6, .slice A7 m7 c7, .slice A8 m8 c8] v N ∧ N ≤ 360 + k) (fun _ i _ => m3 - (RowKit.intOf i).toNat)
        case atStart => exact ⟨0, _, by omega, rfl, HT2.out, by omega⟩
        case round =>
          obtain ⟨k, N, hk, rfl, hts, hN⟩ := hrel
          have HTS := Lib.hid hts
          obtain ⟨V, hV⟩ : ∃ W, W = wr := ⟨_, rfl⟩
          subst hV
          clear hts g0 g1 g2 g3 g4 g5 g6 g7
          have g0 := HTS.out.box.cell 0
          have g1 := HTS.out.box.cell 1
          have g2 := HTS.out.box.cell 2
          have g3 := HTS.out.box.cell 3
          have g4 := HTS.out.box.cell 4
          have g5 := HTS.out.box.cell 5
          have g6 := HTS.out.box.cell 6
          have g7 := HTS.out.box.cell 7
          simp only [List.getElem?_toArray, List.getElem?_cons_zero, List.getElem?_cons_succ] at g0 g1 g2 g3 g4 g5 g6 g7
          by_cases hlt : k < m3
          · have hkI : (k : Int) < (m3 : Int) := by omega
            have hk0 : (0 : Int) ≤ (k : Int) := by omega
            obtain ⟨ad, cs, hA, had, hP, hcc⟩ := slC_cells (plainC_len (f := markC) (m := 4) fun _ => rfl) (SlC.plain (HKP.out V HTS.out.bel) HQ3.out (fun _ _ h => h)) (i := k) (by have := E3.out; omega)
            subst hA
            generalize p.marks[k]'(by have := E3.out; omega) = x at *
            obtain ⟨sy, cl, sv, sa⟩ := x
            obtain rfl : cs = [.string sy, .int .u32 cl, .int .u32 sv, .int .u32 sa] := hP
            have e0 := hcc 0 _ rfl
            have e1 := hcc 1 _ rfl
            have e2 := hcc 2 _ rfl
            have e3 := hcc 3 _ rfl
            rw [Nat.add_zero] at e0
            rw [add_next ad (k * 4) 0] at e1
            rw [add_next ad (k * 4) 1] at e2
            rw [add_next ad (k * 4) 2] at e3
            clear hcc
            have hal := (Below.refl V.heap.size V).alloc (Nat.le_refl _) (.cells #[.string sy, .int .u32 cl, .int .u32 sv, .int .u32 sa] 76)
            have h2 := hal.alloc hal.size (.cells #[.string sy] 9)
            have hts2 := HTS.out.call h2
            have hd : ((V.alloc (.cells #[.string sy, .int .u32 cl, .int .u32 sv, .int .u32 sa] 76)).alloc (.cells #[.string sy] 9)).cell? ⟨V.heap.size + 1, 0, none⟩ = some (.string sy) := by
              have := (Blk.new (V.alloc (.cells #[.string sy, .int .u32 cl, .int .u32 sv, .int .u32 sa] 76)) 9 #[.string sy]).cell 0
              rw [World.size_alloc] at this
              simpa using this
            have HTS2 := Lib.hid hts2; have HD := Lib.hid hd
            clear hal h2 hts2 hd
            go_wp2_with (at_builtin; refine TS.append rfl _ _ rfl HTS2.out rfl _ _ sy rfl HD.out (by omega) ?_; intro v3 w3 hts3 hg3; have HTS3 := Lib.hid hts3; clear hts3 hg3)
            go_roundw
            case rel => exact ⟨k + 1, N + 1, by omega, by go_num, HTS3.out, by omega⟩
            case measure => simp [RowKit.intOf]; omega
          · obtain rfl : m3 = k := by omega
            have HT3 := HTS; have hN3 := hN
            clear HTS hlt hN
            go_wp2
            go_loopw [3, 83] (fun v i wr => ∃ (k N : Nat), k ≤ m4 ∧ i = .int .i64 k ∧ TS w wr #[.slice A1 m1 c1, .slice A2 m2 c2, .slice A3 m3 c3, .slice A4 m4 c4, .slice A5 m5 c5, .slice A6 m6 c6, .slice A7 m7 c7, .slice A8 m8 c8] v N ∧ N ≤ 420 + k) (fun _ i _ => m4 - (RowKit.intOf i).toNat)
            case atStart => exact ⟨0, _, by omega, rfl, HT3.out, by omega⟩
            case round =>
              obtain ⟨k, N, hk, rfl, hts, hN⟩ := hrel
              have HTS := Lib.hid hts
              obtain ⟨V, hV⟩ : ∃ W, W = wr := ⟨_, rfl⟩
              subst hV
              clear hts g0 g1 g2 g3 g4 g5 g6 g7
              have g0 := HTS.out.box.cell 0
              have g1 := HTS.out.box.cell 1
              have g2 := HTS.out.box.cell 2
              have g3 := HTS.out.box.cell 3
              have g4 := HTS.out.box.cell 4
              have g5 := HTS.out.box.cell 5
              have g6 := HTS.out.box.cell 6
              have g7 := HTS.out.box.cell 7
              simp only [List.getElem?_toArray, List.getElem?_cons_zero, List.getElem?_cons_succ] at g0 g1 g2 g3 g4 g5 g6 g7
              by_cases hlt : k < m4
              · have hkI : (k : Int) < (m4 : Int) := by omega
                have hk0 : (0 : Int) ≤ (k : Int) := by omega
                obtain ⟨ad, cs, hA, had, hP, hcc⟩ := slC_cells (plainC_len (f := fun x : Nd => [Value.int .i64 x.1, Value.string x.2]) (m := 2) fun _ => rfl) (SlC.plain (HKP.out V HTS.out.bel) HQ4.out (fun _ _ h => h)) (i := k) (by have := E4.out; omega)
                subst hA
                generalize p.tree[k]'(by have := E4.out; omega) = x at *
                obtain ⟨pa, sy⟩ := x
                obtain rfl : cs = [.int .i64 pa, .string sy] := hP
                have e0 := hcc 0 _ rfl
                have e1 := hcc 1 _ rfl
                rw [Nat.add_zero] at e0
                rw [add_next ad (k * 2) 0] at e1
                clear hcc
                have hal := (Below.refl V.heap.size V).alloc (Nat.le_refl _) (.cells #[.int .i64 pa, .string sy] 78)
                have h2 := hal.alloc hal.size (.cells #[.string sy] 9)
                have hts2 := HTS.out.call h2
                have hd : ((V.alloc (.cells #[.int .i64 pa, .string sy] 78)).alloc (.cells #[.string sy] 9)).cell? ⟨V.heap.size + 1, 0, none⟩ = some (.string sy) := by
                  have := (Blk.new (V.alloc (.cells #[.int .i64 pa, .string sy] 78)) 9 #[.string sy]).cell 0
                  rw [World.size_alloc] at this
                  simpa using this
                have HTS2 := Lib.hid hts2; have HD := Lib.hid hd
                clear hal h2 hts2 hd
                go_wp2_with (at_builtin; refine TS.append rfl _ _ rfl HTS2.out rfl _ _ sy rfl HD.out (by omega) ?_; intro v3 w3 hts3 hg3; have HTS3 := Lib.hid hts3; clear hts3 hg3)
                go_roundw
                case rel => exact ⟨k + 1, N + 1, by omega, by go_num, HTS3.out, by omega⟩
                case measure => simp [RowKit.intOf]; omega
              · obtain rfl : m4 = k := by omega
                have HT4 := HTS; have hN4 := hN
                clear HTS hlt hN
                go_wp2
                have hN6 : N ≤ 600 := by omega
                go_loopw [97] (fun i wr => ∃ k : Nat, k ≤ m5 ∧ i = .int .i64 k ∧ TS w wr #[.slice A1 m1 c1, .slice A2 m2 c2, .slice A3 m3 c3, .slice A4 m4 c4, .slice A5 m5 c5, .slice A6 m6 c6, .slice A7 m7 c7, .slice A8 m8 c8] u3 N) (fun i _ => m5 - (RowKit.intOf i).toNat)
                case atStart => exact ⟨0, by omega, rfl, HT4.out⟩
                case round =>
                  obtain ⟨k, hk, rfl, hts⟩ := hrel
                  have HTS := Lib.hid hts
                  obtain ⟨V, hV⟩ : ∃ W, W = wr := ⟨_, rfl⟩
                  subst hV
                  clear hts g0 g1 g2 g3 g4 g5 g6 g7
                  have g0 := HTS.out.box.cell 0
                  have g1 := HTS.out.box.cell 1
                  have g2 := HTS.out.box.cell 2
                  have g3 := HTS.out.box.cell 3
                  have g4 := HTS.out.box.cell 4
                  have g5 := HTS.out.box.cell 5
                  have g6 := HTS.out.box.cell 6
                  have g7 := HTS.out.box.cell 7
                  simp only [List.getElem?_toArray, List.getElem?_cons_zero, List.getElem?_cons_succ] at g0 g1 g2 g3 g4 g5 g6 g7
                  by_cases hlt : k < m5
                  · have hkI : (k : Int) < (m5 : Int) := by omega
                    have hk0 : (0 : Int) ≤ (k : Int) := by omega
                    obtain ⟨ad, cs, hA, had, hP, hcc⟩ := slC_cells (by intro x cs h; exact law_len h) (SlC.plain (HKP.out V HTS.out.bel) HQ5.out (fun _ _ h => h.keep (HKP.out V HTS.out.bel))) (i := k) (by have := E5.out; omega)
                    subst hA
                    have h18 := law_len hP
                    have hone := law_one_ hP
                    have hcell : ∀ j u, cs[j]? = some u → V.cell? ((ad.add (k * 18)).add j) = some u := fun j u hu => by rw [add_add]; exact hcc j u hu
                    generalize p.laws[k]'(by have := E5.out; omega) = x at *
                    have hcall := lightLaw_any (V.alloc (.cells cs.toArray 62)) B x cs (hP.keep fun p hp => World.cell?_alloc_lt V _ p (by have := HBB.out; have := HTS.out.bel.size; omega))
                    have hblk := Blk.new V 62 cs.toArray
                    have hz := Blk.new V 62 zlaw.toArray
                    have hset := setRow_alloc V 62 zlaw.toArray cs.toArray
                    have hts2 := HTS.out.call ((Below.refl V.heap.size V).alloc (Nat.le_refl _) (.cells cs.toArray 62))
                    have HCALL := Lib.hid hcall; have HBLK := Lib.hid hblk; have HZ := Lib.hid hz; have HSET := Lib.hid hset; have H18 := Lib.hid h18; have HONE := Lib.hid hone; have HCELL := Lib.hid hcell; have HTS2 := Lib.hid hts2
                    clear hcall hblk hz hset h18 hone hcell hP hcc hts2
                    go_wp2_with (first | (refine law_load_at rfl _ rfl _ rfl cs H18.out HCELL.out ?_; simp only [Act.put, List.setIfInBounds_toArray, List.set_cons_zero, List.set_cons_succ]) | (refine law_store_ rfl _ _ rfl _ rfl cs zlaw rfl H18.out HONE.out HZ.out rfl ?_; rw [HSET.out]; simp only [Act.put, List.setIfInBounds_toArray, List.set_cons_zero, List.set_cons_succ]) | (refine law_load rfl _ rfl _ rfl _ H18.out HBLK.out ?_; simp only [Act.put, List.setIfInBounds_toArray, List.set_cons_zero, List.set_cons_succ]))
                    refine HCALL.out.mono ?_
                    rintro e w5 ⟨⟨b, rfl⟩, hb5⟩
                    have HTS5 := Lib.hid (HTS2.out.call hb5)
                    clear hb5 g0 g1 g2 g3 g4 g5 g6 g7
                    cases b with
                    | true =>
                      go_wp2
                      go_roundw
                      case rel => exact ⟨k + 1, by omega, by go_num, HTS5.out⟩
                      case measure => simp [RowKit.intOf]; omega
                    | false =>
                      go_wp2
                      go_ret
                      exact HNO.out _ HTS5.out.bel
                  · obtain rfl : m5 = k := by omega
                    obtain ⟨Af7, nf7, cf7, hvf, xs7, hxr7, fl7, hfl7, hfn7⟩ := forms_cells (SlC.plain (HKP.out V HTS.out.bel) HQ7.out (fun _ _ h => FormC.keep (HKP.out V HTS.out.bel) h))
                    injection hvf with hva hvb hvc
                    subst hva hvb hvc
                    rw [hfl7] at hxr7
                    have hcf := cloneF_any A7 m7 c7 (fl7.flatMap fmC) V B hxr7 (by intro u hu; obtain ⟨f, _, hf⟩ := List.mem_flatMap.1 hu; simp only [List.mem_cons, List.not_mem_nil, or_false] at hf; rcases hf with rfl | rfl <;> rfl) (Nat.le_trans HBB.out HTS.out.bel.size) (by omega)
                    have HCF := Lib.hid hcf; have HFN7 := Lib.hid hfn7
                    clear hcf hxr7 hfl7 hlt hfn7
                    go_wp2_with fail
                    refine HCF.out.mono ?_
                    rintro e w6 ⟨v6, rfl, ho6, hb6⟩
                    have HF6 : Hid (FS w w6 v6 m7) := Lib.hid ⟨⟨fl7, HFN7.out.symm, own_mono ho6 HTS.out.bel.size⟩⟩
                    have HT6 := Lib.hid (HTS.out.call hb6)
                    clear ho6 hb6 g0 g1 g2 g3 g4 g5 g6 g7
                    have g0 := HT6.out.box.cell 0
                    have g1 := HT6.out.box.cell 1
                    have g2 := HT6.out.box.cell 2
                    have g3 := HT6.out.box.cell 3
                    have g4 := HT6.out.box.cell 4
                    have g5 := HT6.out.box.cell 5
                    have g6 := HT6.out.box.cell 6
                    have g7 := HT6.out.box.cell 7
                    simp only [List.getElem?_toArray, List.getElem?_cons_zero, List.getElem?_cons_succ] at g0 g1 g2 g3 g4 g5 g6 g7
                    go_wp2
                    go_loopw [3, 12, 111] (fun v f i wr => ∃ (k N M : Nat), k ≤ m8 ∧ i = .int .i64 k ∧ TS w wr #[.slice A1 m1 c1, .slice A2 m2 c2, .slice A3 m3 c3, .slice A4 m4 c4, .slice A5 m5 c5, .slice A6 m6 c6, .slice A7 m7 c7, .slice A8 m8 c8] v N ∧ N ≤ 600 + k ∧ FS w wr f M ∧ M ≤ 300 + 100 * k) (fun _ _ i _ => m8 - (RowKit.intOf i).toNat)
                    case atStart => exact ⟨0, _, _, by omega, rfl, HT6.out, by omega, HF6.out, by omega⟩
                    case round =>
                      obtain ⟨k, N, M, hk, rfl, hts, hN, hfs, hM⟩ := hrel
                      have HTS := Lib.hid hts; have HFS := Lib.hid hfs
                      obtain ⟨V, hV⟩ : ∃ W, W = wr := ⟨_, rfl⟩
                      subst hV
                      clear hts hfs g0 g1 g2 g3 g4 g5 g6 g7
                      have g0 := HTS.out.box.cell 0
                      have g1 := HTS.out.box.cell 1
                      have g2 := HTS.out.box.cell 2
                      have g3 := HTS.out.box.cell 3
                      have g4 := HTS.out.box.cell 4
                      have g5 := HTS.out.box.cell 5
                      have g6 := HTS.out.box.cell 6
                      have g7 := HTS.out.box.cell 7
                      simp only [List.getElem?_toArray, List.getElem?_cons_zero, List.getElem?_cons_succ] at g0 g1 g2 g3 g4 g5 g6 g7
                      by_cases hlt : k < m8
                      · have hkI : (k : Int) < (m8 : Int) := by omega
                        have hk0 : (0 : Int) ≤ (k : Int) := by omega
                        obtain ⟨ad, cs, hA, had, hP, hcc⟩ := slC_cells en_len HQ8.out (i := k) (by have := E8.out; omega)
                        subst hA
                        generalize p.entries[k]'(by have := E8.out; omega) = x at *
                        obtain ⟨vx, rfl, hvx⟩ := hP
                        obtain ⟨sy, fx⟩ := x
                        obtain ⟨Ax, nx, cx, rfl, xs2, hxr, fl2, hfl2, hfn2⟩ := forms_cells (w := w) (B := B) hvx
                        have e0 := (HKP.out V HTS.out.bel _ (by rw [add_block_]; exact had)).trans (hcc 0 _ rfl)
                        have e1 := (HKP.out V HTS.out.bel _ (by rw [add_block_]; exact had)).trans (hcc 1 _ rfl)
                        rw [Nat.add_zero] at e0
                        rw [add_next ad (k * 2) 0] at e1
                        have hal := (Below.refl V.heap.size V).alloc (Nat.le_refl _) (.cells #[.string sy, .slice Ax nx cx] 84)
                        have hbl := Blk.new V 84 #[.string sy, .slice Ax nx cx]
                        have h2 := hal.alloc hal.size (.cells #[.string sy] 9)
                        have hts2 := HTS.out.call h2
                        have hfs2 := HFS.out.call h2
                        have hd : ((V.alloc (.cells #[.string sy, .slice Ax nx cx] 84)).alloc (.cells #[.string sy] 9)).cell? ⟨V.heap.size + 1, 0, none⟩ = some (.string sy) := by
                          have := (Blk.new (V.alloc (.cells #[.string sy, .slice Ax nx cx] 84)) 9 #[.string sy]).cell 0
                          rw [World.size_alloc] at this
                          simpa using this
                        have HTS2 := Lib.hid hts2; have HD := Lib.hid hd; have HFS2 := Lib.hid hfs2; have HBL := Lib.hid (hbl.alloc (.cells #[.string sy] 9)); have HXR := Lib.hid hxr; have HFL2 := Lib.hid hfl2
                        clear hal h2 hts2 hd hfs2 hbl hxr hfl2 hcc hvx hfn2
                        by_cases h100 : 100 < nx
                        · have h100I : (100 : Int) < (nx : Int) := by omega
                          go_wp2_with (at_builtin; go_loud (refine TS.append rfl _ _ rfl HTS2.out rfl _ _ sy rfl HD.out (by omega) ?_; intro v3 w3 hts3 hg3; have hfs3 := HFS2.out.grown HTS2.out hg3; have hbl3 := TS.keeps HTS2.out hg3 HBL.out (by decide); have d0 := hbl3.cell 0; have d1 := hbl3.cell 1; simp only [List.getElem?_toArray, List.getElem?_cons_zero, List.getElem?_cons_succ] at d0 d1; have HTS3 := Lib.hid hts3; have HFS3 := Lib.hid hfs3; clear hts3 hg3 hfs3 hbl3))
                          go_ret
                          exact HYES.out _ _ HTS3.out.bel
                        · have h100I : ¬ (100 : Int) < (nx : Int) := by omega
                          go_wp2_with (first | (at_builtin; refine TS.append rfl _ _ rfl HTS2.out rfl _ _ sy rfl HD.out (by omega) ?_; intro v3 w3 hts3 hg3; have hfs3 := HFS2.out.grown HTS2.out hg3; have hbl3 := TS.keeps HTS2.out hg3 HBL.out (by decide); have d0 := hbl3.cell 0; have d1 := hbl3.cell 1; simp only [List.getElem?_toArray, List.getElem?_cons_zero, List.getElem?_cons_succ] at d0 d1; have HTS3 := Lib.hid hts3; have HFS3 := Lib.hid hfs3; clear hts3 hg3 hfs3 hbl3) | (at_builtin; refine FS.append rfl _ _ rfl HFS3.out HTS3.out rfl _ _ _ fl2 rfl (by rw [← HFL2.out]; exact HXR.out.below (HTS3.out.bel.mono HBB.out) |>.more (Nat.le_trans HBB.out HTS3.out.bel.size)) (by omega) ?_; intro v4 w4 hfs4 hts4; have HFS4 := Lib.hid hfs4; have HTS4 := Lib.hid hts4; clear hfs4 hts4))
                          go_roundw
                          case rel => exact ⟨k + 1, N + 1, M + nx, by omega, by go_num, HTS4.out, by omega, HFS4.out, by omega⟩
                          case measure => simp [RowKit.intOf]; omega
                      · obtain rfl : m8 = k := by omega
                        obtain ⟨ss, hss, hso⟩ := HTS.out.own
                        obtain ⟨At, ct, rfl, hx1, hx2⟩ := ownsRow_form hso
                        obtain ⟨fl, hfl, hfo⟩ := HFS.out.own
                        obtain ⟨Af, cf, rfl, hy1, hy2⟩ := ownsRow_form hfo
                        have HBT := Lib.hid HTS.out.bel; have HFO := Lib.hid hfo
                        have hls := longS_any At N ct V.heap.size ss V (Reads.of_own hso) (Nat.le_refl _) (by unfold maxLen; omega)
                        have HLS := Lib.hid hls
                        clear hls hso hfo hlt
                        go_wp2_with fail
                        refine (HLS.out).mono ?_
                        rintro e wa ⟨⟨b, rfl⟩, hba⟩
                        have HBA := Lib.hid (HBT.out.trans (hba.mono HBT.out.size)); have HFA := Lib.hid (own_below' HFO.out hba)
                        clear hba
                        cases b with
                        | true =>
                          go_wp2
                          go_ret
                          exact HYES.out _ _ HBA.out
                        | false =>
                          by_cases hM8 : M ≤ 8000
                          case neg =>
                            have hMI : ¬ (M : Int) ≤ 8000 := by omega
                            go_wp2
                            go_ret
                            exact HYES.out _ _ HBA.out
                          have hMI : (M : Int) ≤ 8000 := by omega
                          have hlf := longF_any Af M cf wa.heap.size fl wa (Reads.of_own HFA.out) (Nat.le_refl _) (by unfold maxLen; omega)
                          have HLF := Lib.hid hlf
                          clear hlf
                          go_wp2_with fail
                          refine (HLF.out).mono ?_
                          rintro e wb ⟨⟨b2, rfl⟩, hbb⟩
                          have HBB2 := Lib.hid (HBA.out.trans (hbb.mono HBA.out.size))
                          clear hbb
                          go_wp2
                          go_ret
                          exact HYES.out _ _ HBB2.out
end Go.Proofs.YtmepaeahchiglaaGreatDoor
