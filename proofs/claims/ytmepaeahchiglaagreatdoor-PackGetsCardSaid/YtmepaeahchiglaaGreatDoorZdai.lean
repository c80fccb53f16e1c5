/-
 layer 43: what law.Check asks of conditions and results. Conditions: numbers of 32 bits; lists that can be read.
-/
import Derived.Test.YtmepaeahchiglaaGreatDoorZdah
set_option maxRecDepth 20000
set_option maxHeartbeats 4000000
namespace Go.Proofs.YtmepaeahchiglaaGreatDoor
open Go.RowKit Go.Lib
def sJ (k : Nat) (x : Ot) : Bool := gZ x (k : Int)
theorem rW (s : Snd) (w : World) (hs : ok32 s) : Calls Tryz.prog 67 #[jy s] w fun e w' => e = .returned (.bool (!ax s)) ∧ Below w.heap.size w w' := by
 have hv := fun W => oN s W hs
 generalize ax s = v at *
 have HV := qh hv
 clear hv hs
 obtain ⟨a, b⟩ := s
 go_enter Tryz.func67, Tryz.ntmps67
 go_wp2_with fail
 refine (HV.out _).mono ?_
 rintro e w1 ⟨rfl, hb⟩
 have HB := qh hb
 clear hb
 go_wp2
 go_ret
 exact ⟨rfl, ((Below.refl _ w).alloc (Nat.le_refl _) _).trans (HB.out.mono (by simp))⟩
theorem Fj (x : Ot) (k h : Nat) (w : World) (bW : is32 x.clear) (hset : ok32 x.set) (htk : is32 x.take) (hh : Blk w h 3 #[.int .i64 k]) :
 Calls Tryz.prog 65 #[Dt x, af h] w fun e w' => e = .returned (.bool (!sJ k x)) ∧ Below w.heap.size w w' := by
 have hv := fun W => Ki x k W bW hset htk
 unfold sJ
 generalize gZ x (k : Int) = v at *
 have hc := (hh.alloc (.cells #[.int .i64 x.src, .int .u32 x.clear, .int .u32 x.set.1, .int .u32 x.set.2, .int .u32 x.take, .int .i64 x.ref] 90)).cell 0
 simp only [gq2] at hc
 have HV := qh hv
 clear hv bW hset htk hh
 obtain ⟨src, clear, set, take, ref⟩ := x
 obtain ⟨a, b⟩ := set
 simp only at *
 go_enter Tryz.func65, Tryz.ntmps65
 go_wp2_with fail
 refine (HV.out _).mono ?_
 rintro e w1 ⟨rfl, hb⟩
 have HB := qh hb
 clear hb
 go_wp2
 go_ret
 exact ⟨rfl, ((Below.refl _ w).alloc (Nat.le_refl _) _).trans (HB.out.mono (by simp))⟩
theorem JE (A : Option Addr) (n c B : Nat) (l : List Snd) (w : World) (hr : Reads w B 2 A n (l.flatMap gL)) (hB : B ≤ w.heap.size) (hn : n ≤ maxLen) (hok : ∀ x ∈ l, ok32 x) :
 Calls Tryz.prog 145 #[.slice A n c, .func (.func 67) #[] #[]] w fun e w' => (∃ i : Int, e = .returned (.int .i64 i) ∧ decide (0 ≤ i) = !(l.all (ax))) ∧ Below w.heap.size w w' := by
 unfold maxLen at hn
 have hwl := hr.iD (fun _ => rfl) (by decide)
 obtain ⟨res, hres⟩ : ∃ res, (!(l.all (ax))) = res := ⟨_, rfl⟩
 rw [hres]
 have bT := qh hres; have HR := qh hr; have wG := qh hwl; have gW := qh hok
 clear hres hr hwl hok
 obtain ⟨PO, OT⟩ : ∃ PO : Ending → World → Prop, PO = fun e w' => (∃ i : Int, e = .returned (.int .i64 i) ∧ decide (0 ≤ i) = res) ∧ Below w.heap.size w w' := ⟨_, rfl⟩
 show Calls _ _ _ _ fun e w' => (∃ i : Int, e = .returned (.int .i64 i) ∧ decide (0 ≤ i) = res) ∧ Below w.heap.size w w'
 rw [← OT]
 have Ux := qh OT
 clear OT
 go_enter Tryz.func145, Tryz.ntmps145
 go_wp2
 go_loopw [8] (fun i wr => ∃ k : Nat, k ≤ n ∧ i = .int .i64 k ∧ (l.take k).all (ax) = true ∧ Below w.heap.size w wr) (fun i _ => n - (RowKit.intOf i).toNat)
 case atStart => exact ⟨0, by omega, rfl, by simp, Below.refl _ _⟩
 case round =>
  obtain ⟨k, hk, rfl, aI, hb⟩ := hrel
  have bf := qh aI; have HB := qh hb
  clear aI hb
  by_cases hlt : k < n
  ·have bB : k < l.length := by rw [wG.out]; exact hlt
   have cB : (k : Int) < (n : Int) := by omega
   obtain ⟨ad, rfl, had, hc0, hc1⟩ := fA (HR.out.below (HB.out.mono hB)) bB
   have aF : (l.take (k + 1)).all (ax) = ((l.take k).all (ax) && (ax) l[k]) := by rw [List.take_succ_eq_append_getElem bB, List.all_append]; simp
   have hmem := List.getElem_mem bB
   have sN := gW.out _ hmem
   have bL := qh aF
   cases hv : (ax) l[k]
   ·have aS : res = true := by
     rw [← bT.out, Bool.not_eq_true', List.all_eq_false]
     exact ⟨_, hmem, by rw [hv]; decide⟩
    have HV := qh hv; have cu := qh aS
    clear hv aS hmem aF
    generalize l[k] = x at *
    go_wp2_with fail
    refine (rW x _ sN).mono ?_
    rw [HV.out]
    rintro e w2 ⟨rfl, hb2⟩
    have HB2 := qh hb2
    clear hb2
    go_wp2
    rw [Ux.out]
    exact ⟨⟨k, rfl, by rw [cu.out]; exact decide_eq_true (by omega)⟩, HB.out.trans (HB2.out.mono HB.out.size)⟩
   ·have HV := qh hv
    clear hv hmem aF
    generalize l[k] = x at *
    go_wp2_with fail
    refine (rW x _ sN).mono ?_
    rw [HV.out]
    rintro e w2 ⟨rfl, hb2⟩
    have HB2 := qh hb2
    clear hb2
    go_wp2
    go_roundw
    case rel => exact ⟨k + 1, by omega, by go_num, by rw [bL.out, bf.out, HV.out]; rfl, HB.out.trans (HB2.out.mono HB.out.size)⟩
    case measure => simp [RowKit.intOf]; omega
  ·obtain rfl : k = n := by omega
   go_wp2
   have := bf.out
   rw [List.take_of_length_le (by rw [wG.out]; exact Nat.le_refl _)] at this
   rw [Ux.out]
   exact ⟨⟨-1, rfl, by rw [← bT.out, this]; rfl⟩, HB.out⟩
theorem GZ (A : Option Addr) (n c B : Nat) (l : List Snd) (w : World) (hr : Reads w B 2 A n (l.flatMap gL)) (hB : B ≤ w.heap.size) (hn : n ≤ maxLen) (hok : ∀ x ∈ l, ok32 x) :
 Calls Tryz.prog 71 #[.slice A n c, .func (.func 67) #[] #[]] w fun e w' => e = .returned (.bool (!(l.all (ax)))) ∧ Below w.heap.size w w' := by
 have hc := JE A n c B l w hr hB hn hok
 generalize (!(l.all (ax))) = res at *
 clear hr hok
 go_enter Tryz.func71, Tryz.ntmps71
 go_wp2_with fail
 refine hc.mono ?_
 rintro e w1 ⟨⟨i, rfl, hi⟩, hb⟩
 have HI := qh hi; have HB := qh hb
 clear hi hb
 go_wp2
 go_ret
 exact ⟨by rw [← HI.out]; rfl, HB.out⟩
theorem JF (A : Option Addr) (n c B : Nat) (l : List Ot) (w : World) (k0 h : Nat) (hh : Blk w h 3 #[.int .i64 k0]) (hr : Reads w B 6 A n (l.flatMap jc)) (hB : B ≤ w.heap.size) (hn : n ≤ maxLen) (hok : ∀ x ∈ l, is32 x.clear ∧ ok32 x.set ∧ is32 x.take) :
 Calls Tryz.prog 146 #[.slice A n c, .func (.func 65) #[] #[af h]] w fun e w' => (∃ i : Int, e = .returned (.int .i64 i) ∧ decide (0 ≤ i) = !(l.all (sJ k0))) ∧ Below w.heap.size w w' := by
 unfold maxLen at hn
 have hwl := hr.iD (fun _ => rfl) (by decide)
 obtain ⟨res, hres⟩ : ∃ res, (!(l.all (sJ k0))) = res := ⟨_, rfl⟩
 rw [hres]
 have bT := qh hres; have HR := qh hr; have wG := qh hwl; have gW := qh hok; have HX := qh hh
 clear hres hr hwl hok hh
 obtain ⟨PO, OT⟩ : ∃ PO : Ending → World → Prop, PO = fun e w' => (∃ i : Int, e = .returned (.int .i64 i) ∧ decide (0 ≤ i) = res) ∧ Below w.heap.size w w' := ⟨_, rfl⟩
 show Calls _ _ _ _ fun e w' => (∃ i : Int, e = .returned (.int .i64 i) ∧ decide (0 ≤ i) = res) ∧ Below w.heap.size w w'
 rw [← OT]
 have Ux := qh OT
 clear OT
 go_enter Tryz.func146, Tryz.ntmps146
 go_wp2
 go_loopw [8] (fun i wr => ∃ k : Nat, k ≤ n ∧ i = .int .i64 k ∧ (l.take k).all (sJ k0) = true ∧ Below w.heap.size w wr) (fun i _ => n - (RowKit.intOf i).toNat)
 case atStart => exact ⟨0, by omega, rfl, by simp, Below.refl _ _⟩
 case round =>
  obtain ⟨k, hk, rfl, aI, hb⟩ := hrel
  have bf := qh aI; have HB := qh hb
  clear aI hb
  by_cases hlt : k < n
  ·have bB : k < l.length := by rw [wG.out]; exact hlt
   have cB : (k : Int) < (n : Int) := by omega
   obtain ⟨ad, rfl, had, hc0, hc1, hc2, hc3, hc4, hc5⟩ := kP (HR.out.below (HB.out.mono hB)) bB
   have aF : (l.take (k + 1)).all (sJ k0) = ((l.take k).all (sJ k0) && (sJ k0) l[k]) := by rw [List.take_succ_eq_append_getElem bB, List.all_append]; simp
   have hmem := List.getElem_mem bB
   have sN := gW.out _ hmem
   have bL := qh aF
   cases hv : (sJ k0) l[k]
   ·have aS : res = true := by
     rw [← bT.out, Bool.not_eq_true', List.all_eq_false]
     exact ⟨_, hmem, by rw [hv]; decide⟩
    have HV := qh hv; have cu := qh aS
    clear hv aS hmem aF
    generalize l[k] = x at *
    go_wp2_with fail
    refine (Fj x k0 h _ sN.1 sN.2.1 sN.2.2 (HX.out.below HB.out HX.out.lt)).mono ?_
    rw [HV.out]
    rintro e w2 ⟨rfl, hb2⟩
    have HB2 := qh hb2
    clear hb2
    go_wp2
    rw [Ux.out]
    exact ⟨⟨k, rfl, by rw [cu.out]; exact decide_eq_true (by omega)⟩, HB.out.trans (HB2.out.mono HB.out.size)⟩
   ·have HV := qh hv
    clear hv hmem aF
    generalize l[k] = x at *
    go_wp2_with fail
    refine (Fj x k0 h _ sN.1 sN.2.1 sN.2.2 (HX.out.below HB.out HX.out.lt)).mono ?_
    rw [HV.out]
    rintro e w2 ⟨rfl, hb2⟩
    have HB2 := qh hb2
    clear hb2
    go_wp2
    go_roundw
    case rel => exact ⟨k + 1, by omega, by go_num, by rw [bL.out, bf.out, HV.out]; rfl, HB.out.trans (HB2.out.mono HB.out.size)⟩
    case measure => simp [RowKit.intOf]; omega
  ·obtain rfl : k = n := by omega
   go_wp2
   have := bf.out
   rw [List.take_of_length_le (by rw [wG.out]; exact Nat.le_refl _)] at this
   rw [Ux.out]
   exact ⟨⟨-1, rfl, by rw [← bT.out, this]; rfl⟩, HB.out⟩
theorem G5 (A : Option Addr) (n c B : Nat) (l : List Ot) (w : World) (k0 h : Nat) (hh : Blk w h 3 #[.int .i64 k0]) (hr : Reads w B 6 A n (l.flatMap jc)) (hB : B ≤ w.heap.size) (hn : n ≤ maxLen) (hok : ∀ x ∈ l, is32 x.clear ∧ ok32 x.set ∧ is32 x.take) :
 Calls Tryz.prog 72 #[.slice A n c, .func (.func 65) #[] #[af h]] w fun e w' => e = .returned (.bool (!(l.all (sJ k0)))) ∧ Below w.heap.size w w' := by
 have hc := JF A n c B l w k0 h hh hr hB hn hok
 generalize (!(l.all (sJ k0))) = res at *
 clear hr hok
 go_enter Tryz.func72, Tryz.ntmps72
 go_wp2_with fail
 refine hc.mono ?_
 rintro e w1 ⟨⟨i, rfl, hi⟩, hb⟩
 have HI := qh hi; have HB := qh hb
 clear hi hb
 go_wp2
 go_ret
 exact ⟨by rw [← HI.out]; rfl, HB.out⟩
def dE (l : Lw) : Bool := aM l.name && (eF l.left && (eF l.right && (decide (l.ifs.length ≤ 4) && (decide (l.outs.length ≤ 6) && (decide (0 < l.ifs.length + l.outs.length) && (decide (1 ≤ l.mode ∧ l.mode ≤ 3) && (l.ifs.all ax && l.outs.all (sJ l.ifs.length))))))))
def nR (l : Lw) : Int := if dE l then 0 else 17
theorem zo {l : Lw} (h : dE l = false) : nR l = 17 := by unfold nR; rw [h]; rfl
theorem vC {l : Lw} (h : dE l = true) : nR l = 0 := by unfold nR; rw [h]; rfl
theorem pV (w : World) (B : Nat) (l : Lw) (cs : List Value) (hl : fI w B l cs) (hB : B ≤ w.heap.size) (hnm : l.name.size ≤ maxLen) :
 Calls Tryz.prog 23 #[.agg cs.toArray] w fun e w' => e = .returned (.int .i64 (nR l)) ∧ Below w.heap.size w w' := by
 obtain ⟨k1, s1, n1, lo1, hi1, A1, m1, c1, k2, s2, n2, lo2, hi2, A2, m2, c2, A3, c3, A4, c4, rfl, -, -, -, -, hs3, hs4, hm3, hm4⟩ := hl.form
 obtain ⟨res, hres⟩ : ∃ res, nR l = res := ⟨_, rfl⟩
 rw [hres]
 have aS : dE l = false → res = 17 := fun h => by rw [← hres, zo h]
 have eu : dE l = true → res = 0 := fun h => by rw [← hres, vC h]
 clear hres
 obtain ⟨nm, left, right, ifs, outs, mode⟩ := l
 simp only at hs3 hs4 hm3 hm4 hnm ⊢
 unfold dE at aS eu
 simp only at aS eu
 have hbel0 : Below w.heap.size w ((w.alloc (.cells #[.string nm, .int .i64 k1, .int .u32 s1.1, .int .u32 s1.2, .bool n1, .int .i64 lo1, .int .i64 hi1, .slice A1 m1 c1, .int .i64 k2, .int .u32 s2.1, .int .u32 s2.2, .bool n2, .int .i64 lo2, .int .i64 hi2, .slice A2 m2 c2, .slice A3 ifs.length c3, .slice A4 outs.length c4, .int .i64 mode] 62)).alloc (.cells #[.int .i64 (ifs.length : Nat)] 3)) := ((Below.refl _ w).alloc (Nat.le_refl _) _).alloc (by simp) _
 have hl0 := hl.below (hbel0.mono hB)
 have hb0 : Blk ((w.alloc (.cells #[.string nm, .int .i64 k1, .int .u32 s1.1, .int .u32 s1.2, .bool n1, .int .i64 lo1, .int .i64 hi1, .slice A1 m1 c1, .int .i64 k2, .int .u32 s2.1, .int .u32 s2.2, .bool n2, .int .i64 lo2, .int .i64 hi2, .slice A2 m2 c2, .slice A3 ifs.length c3, .slice A4 outs.length c4, .int .i64 mode] 62)).alloc (.cells #[.int .i64 (ifs.length : Nat)] 3)) w.heap.size 62 #[.string nm, .int .i64 k1, .int .u32 s1.1, .int .u32 s1.2, .bool n1, .int .i64 lo1, .int .i64 hi1, .slice A1 m1 c1, .int .i64 k2, .int .u32 s2.1, .int .u32 s2.2, .bool n2, .int .i64 lo2, .int .i64 hi2, .slice A2 m2 c2, .slice A3 ifs.length c3, .slice A4 outs.length c4, .int .i64 mode] := (Blk.new w _ _).alloc _
 have hv0 : Blk ((w.alloc (.cells #[.string nm, .int .i64 k1, .int .u32 s1.1, .int .u32 s1.2, .bool n1, .int .i64 lo1, .int .i64 hi1, .slice A1 m1 c1, .int .i64 k2, .int .u32 s2.1, .int .u32 s2.2, .bool n2, .int .i64 lo2, .int .i64 hi2, .slice A2 m2 c2, .slice A3 ifs.length c3, .slice A4 outs.length c4, .int .i64 mode] 62)).alloc (.cells #[.int .i64 (ifs.length : Nat)] 3)) (w.heap.size + 1) 3 #[.int .i64 (ifs.length : Nat)] := by simpa using Blk.new (w.alloc (.cells #[.string nm, .int .i64 k1, .int .u32 s1.1, .int .u32 s1.2, .bool n1, .int .i64 lo1, .int .i64 hi1, .slice A1 m1 c1, .int .i64 k2, .int .u32 s2.1, .int .u32 s2.2, .bool n2, .int .i64 lo2, .int .i64 hi2, .slice A2 m2 c2, .slice A3 ifs.length c3, .slice A4 outs.length c4, .int .i64 mode] 62)) 3 #[.int .i64 (ifs.length : Nat)]
 obtain ⟨Z0, lZ⟩ : ∃ Z, (w.alloc (.cells #[.string nm, .int .i64 k1, .int .u32 s1.1, .int .u32 s1.2, .bool n1, .int .i64 lo1, .int .i64 hi1, .slice A1 m1 c1, .int .i64 k2, .int .u32 s2.1, .int .u32 s2.2, .bool n2, .int .i64 lo2, .int .i64 hi2, .slice A2 m2 c2, .slice A3 ifs.length c3, .slice A4 outs.length c4, .int .i64 mode] 62)).alloc (.cells #[.int .i64 (ifs.length : Nat)] 3) = Z := ⟨_, rfl⟩
 rw [lZ] at hbel0 hl0 hb0 hv0
 have HZ0 := qh lZ
 have hc1 := GG nm Z0 hnm
 have cu := qh aS; have wF := qh eu; have ko := qh hs3; have rA := qh hs4
 have HB0 := qh hb0; have Zk := qh hv0; have PL := qh hl0; have qy := qh hbel0
 clear lZ aS eu hs3 hs4 hb0 hv0 hl0 hbel0 hl
 unfold maxLen at hm3 hm4
 show Calls _ _ #[.agg #[.string nm, .int .i64 k1, .int .u32 s1.1, .int .u32 s1.2, .bool n1, .int .i64 lo1, .int .i64 hi1, .slice A1 m1 c1, .int .i64 k2, .int .u32 s2.1, .int .u32 s2.2, .bool n2, .int .i64 lo2, .int .i64 hi2, .slice A2 m2 c2, .slice A3 ifs.length c3, .slice A4 outs.length c4, .int .i64 mode]] _ _
 go_enter Tryz.func23, Tryz.ntmps23
 go_wp2_with fail
 rw [HZ0.out]
 clear HZ0
 cases hok1 : aM nm
 ·rw [hok1] at hc1
  refine hc1.mono ?_
  rintro e w1 ⟨rfl, hb1⟩
  have h17 := cu.out (by rw [hok1]; rfl)
  have HB1 := qh (qy.out.trans (hb1.mono qy.out.size))
  clear hb1 hok1 hc1
  subst h17
  go_wp2
  go_ret
  exact ⟨rfl, HB1.out⟩
 rw [hok1] at hc1
 refine hc1.mono ?_
 rintro e w1 ⟨rfl, hb1⟩
 have mf := qh hok1
 clear hok1 hc1
 have bE := HB0.out.below hb1 HB0.out.lt
 have rX := Zk.out.below hb1 Zk.out.lt
 have hlx := PL.out.below (hb1.mono (Nat.le_trans hB qy.out.size))
 have hex := qy.out.trans (hb1.mono qy.out.size)
 obtain ⟨y0, y1, y2, y3, y4, y5, y6, y7, y8, y9, y10, y11, y12, y13, y14, y15, y16, y17⟩ := bE.eighteen
 have GJ := rX.cell 0
 simp only [gq2] at GJ
 obtain ⟨hp1, hp2, hr3, hr4⟩ := bJ hlx
 have HB1 := qh bE; have VE := qh rX; have PK := qh hlx; have rD := qh hex
 clear hb1 bE rX hlx hex
 have hcp := pI left k1 s1 n1 lo1 hi1 A1 m1 c1 B w1 hp1 (Nat.le_trans hB rD.out.size)
 clear hp1 hp2 hr3 hr4
 have zM := qh hcp
 clear hcp
 go_wp2_with fail
 refine zM.out.mono ?_
 rintro e w2 ⟨x, rfl, hx, hb1⟩
 clear zM
 by_cases hx0 : x = 0
 case neg =>
  have hok : eF left = false := by
   cases h : eF left with
   | false => rfl
   | true => exact absurd (hx.2 h) hx0
  have h17 := cu.out (by rw [mf.out, hok]; simp)
  have hxe : (x != 0) = true := by simpa using hx0
  have EK := qh (rD.out.trans (hb1.mono rD.out.size))
  clear hb1 hok hx hx0
  subst h17
  go_wp2
  go_ret
  exact ⟨rfl, EK.out⟩
 have nU : Hid (eF left = true) := qh (hx.1 hx0)
 subst hx0
 clear hx
 have bE := HB1.out.below hb1 HB1.out.lt
 have rX := VE.out.below hb1 VE.out.lt
 have hlx := PK.out.below (hb1.mono (Nat.le_trans hB rD.out.size))
 have hex := rD.out.trans (hb1.mono rD.out.size)
 obtain ⟨y0, y1, y2, y3, y4, y5, y6, y7, y8, y9, y10, y11, y12, y13, y14, y15, y16, y17⟩ := bE.eighteen
 have GJ := rX.cell 0
 simp only [gq2] at GJ
 obtain ⟨hp1, hp2, hr3, hr4⟩ := bJ hlx
 have HB2 := qh bE; have VD := qh rX; have HL2 := qh hlx; have HE2 := qh hex
 clear hb1 bE rX hlx hex
 have hcp := pI right k2 s2 n2 lo2 hi2 A2 m2 c2 B w2 hp2 (Nat.le_trans hB HE2.out.size)
 clear hp1 hp2 hr3 hr4
 have zM := qh hcp
 clear hcp
 go_wp2_with fail
 refine zM.out.mono ?_
 rintro e w3 ⟨x, rfl, hx, hb1⟩
 clear zM
 by_cases hx0 : x = 0
 case neg =>
  have hok : eF right = false := by
   cases h : eF right with
   | false => rfl
   | true => exact absurd (hx.2 h) hx0
  have h17 := cu.out (by rw [mf.out, nU.out, hok]; simp)
  have hxe : (x != 0) = true := by simpa using hx0
  have EK := qh (HE2.out.trans (hb1.mono HE2.out.size))
  clear hb1 hok hx hx0
  subst h17
  go_wp2
  go_ret
  exact ⟨rfl, EK.out⟩
 have qw : Hid (eF right = true) := qh (hx.1 hx0)
 subst hx0
 clear hx
 have bE := HB2.out.below hb1 HB2.out.lt
 have rX := VD.out.below hb1 VD.out.lt
 have hlx := HL2.out.below (hb1.mono (Nat.le_trans hB HE2.out.size))
 have hex := HE2.out.trans (hb1.mono HE2.out.size)
 obtain ⟨y0, y1, y2, y3, y4, y5, y6, y7, y8, y9, y10, y11, y12, y13, y14, y15, y16, y17⟩ := bE.eighteen
 have GJ := rX.cell 0
 simp only [gq2] at GJ
 obtain ⟨hp1, hp2, hr3, hr4⟩ := bJ hlx
 have HB3 := qh bE; have TY := qh rX; have PI := qh hlx; have nV := qh hex
 clear hb1 bE rX hlx hex
 clear hp1 hp2
 by_cases g3 : ifs.length ≤ 4
 case neg =>
  have h17 := cu.out (by rw [mf.out, nU.out, qw.out, decide_eq_false (show ¬ (ifs.length ≤ 4) from g3)]; simp)
  have hI : (4 : Int) < (ifs.length : Int) := by omega
  clear hr3 hr4
  subst h17
  go_wp2_with fail
  go_ret
  exact ⟨rfl, nV.out⟩
 have hI3 : ¬ (4 : Int) < (ifs.length : Int) := by omega
 by_cases g4 : outs.length ≤ 6
 case neg =>
  have h17 := cu.out (by rw [mf.out, nU.out, qw.out, decide_eq_true (show ifs.length ≤ 4 from g3), decide_eq_false (show ¬ (outs.length ≤ 6) from g4)]; simp)
  have hI : (6 : Int) < (outs.length : Int) := by omega
  clear hr3 hr4
  subst h17
  go_wp2_with fail
  go_ret
  exact ⟨rfl, nV.out⟩
 have Z9 : ¬ (6 : Int) < (outs.length : Int) := by omega
 by_cases g5 : 0 < ifs.length + outs.length
 case neg =>
  have h17 := cu.out (by rw [mf.out, nU.out, qw.out, decide_eq_true (show ifs.length ≤ 4 from g3), decide_eq_true (show outs.length ≤ 6 from g4), decide_eq_false (show ¬ (0 < ifs.length + outs.length) from g5)]; simp)
  have hI : ((ifs.length : Int) + (outs.length : Int) == 0) = true := by rw [beq_iff_eq]; omega
  clear hr3 hr4
  subst h17
  go_wp2_with fail
  go_ret
  exact ⟨rfl, nV.out⟩
 have Z8 : ((ifs.length : Int) + (outs.length : Int) == 0) = false := by rw [beq_eq_false_iff_ne]; omega
 by_cases g6 : 1 ≤ mode ∧ mode ≤ 3
 case neg =>
  have h17 := cu.out (by rw [mf.out, nU.out, qw.out, decide_eq_true (show ifs.length ≤ 4 from g3), decide_eq_true (show outs.length ≤ 6 from g4), decide_eq_true (show 0 < ifs.length + outs.length from g5), decide_eq_false (show ¬ (1 ≤ mode ∧ mode ≤ 3) from g6)]; simp)
  clear hr3 hr4
  subst h17
  by_cases g7 : mode < 1
  ·have Xu : decide (mode < 1) = true := decide_eq_true g7
   clear g6
   go_wp2_with fail
   go_ret
   exact ⟨rfl, nV.out⟩
  ·have Xu : decide (mode < 1) = false := decide_eq_false g7
   have g8 : (3 : Int) < mode := by omega
   clear g6
   go_wp2_with fail
   go_ret
   exact ⟨rfl, nV.out⟩
 have Xk : ¬ mode < 1 := by omega
 have Xj : decide (mode < 1) = false := decide_eq_false Xk
 have Xi : ¬ (3 : Int) < mode := by omega
 have Xh : decide ((3 : Int) < mode) = false := decide_eq_false Xi
 have HG : Hid ((1 ≤ mode ∧ mode ≤ 3) ∧ True) := qh ⟨g6, trivial⟩
 clear g6
 have hcs := GZ A3 ifs.length c3 B ifs w3 hr3 (Nat.le_trans hB nV.out.size) (by unfold maxLen; omega) ko.out
 clear hr3 hr4
 go_wp2_with fail
 cases hok7 : ifs.all ax
 ·rw [hok7] at hcs
  refine hcs.mono ?_
  rintro e w4 ⟨rfl, hb1⟩
  have h17 := cu.out (by rw [mf.out, nU.out, qw.out, decide_eq_true (show ifs.length ≤ 4 from g3), decide_eq_true (show outs.length ≤ 6 from g4), decide_eq_true (show 0 < ifs.length + outs.length from g5), decide_eq_true (show 1 ≤ mode ∧ mode ≤ 3 from HG.out.1), hok7]; simp)
  have EK := qh (nV.out.trans (hb1.mono nV.out.size))
  clear hb1 hok7 hcs
  subst h17
  go_wp2_with fail
  go_ret
  exact ⟨rfl, EK.out⟩
 rw [hok7] at hcs
 refine hcs.mono ?_
 rintro e w4 ⟨rfl, hb1⟩
 have UJ := qh hok7
 clear hok7 hcs
 have bE := HB3.out.below hb1 HB3.out.lt
 have rX := TY.out.below hb1 TY.out.lt
 have hlx := PI.out.below (hb1.mono (Nat.le_trans hB nV.out.size))
 have hex := nV.out.trans (hb1.mono nV.out.size)
 obtain ⟨y0, y1, y2, y3, y4, y5, y6, y7, y8, y9, y10, y11, y12, y13, y14, y15, y16, y17⟩ := bE.eighteen
 have GJ := rX.cell 0
 simp only [gq2] at GJ
 obtain ⟨hp1, hp2, hr3, hr4⟩ := bJ hlx
 have tK := qh bE; have HV4 := qh rX; have VQ := qh hlx; have sj := qh hex
 clear hb1 bE rX hlx hex
 have hco := G5 A4 outs.length c4 B outs w4 ifs.length (w.heap.size + 1) HV4.out hr4 (Nat.le_trans hB sj.out.size) (by unfold maxLen; omega) rA.out
 clear hp1 hp2 hr3 hr4
 go_wp2_with fail
 cases hok8 : outs.all (sJ ifs.length)
 ·rw [hok8] at hco
  refine hco.mono ?_
  rintro e w5 ⟨rfl, hb1⟩
  have h17 := cu.out (by rw [mf.out, nU.out, qw.out, decide_eq_true (show ifs.length ≤ 4 from g3), decide_eq_true (show outs.length ≤ 6 from g4), decide_eq_true (show 0 < ifs.length + outs.length from g5), decide_eq_true (show 1 ≤ mode ∧ mode ≤ 3 from HG.out.1), UJ.out, hok8]; simp)
  have EK := qh (sj.out.trans (hb1.mono sj.out.size))
  clear hb1 hok8 hco
  subst h17
  go_wp2_with fail
  go_ret
  exact ⟨rfl, EK.out⟩
 rw [hok8] at hco
 refine hco.mono ?_
 rintro e w5 ⟨rfl, hb1⟩
 have h0 := wF.out (by rw [mf.out, nU.out, qw.out, decide_eq_true (show ifs.length ≤ 4 from g3), decide_eq_true (show outs.length ≤ 6 from g4), decide_eq_true (show 0 < ifs.length + outs.length from g5), decide_eq_true (show 1 ≤ mode ∧ mode ≤ 3 from HG.out.1), UJ.out, hok8]; rfl)
 have EK := qh (sj.out.trans (hb1.mono sj.out.size))
 clear hb1 hok8 hco
 subst h0
 go_wp2_with fail
 go_ret
 exact ⟨rfl, EK.out⟩
end Go.Proofs.YtmepaeahchiglaaGreatDoor
namespace Go.Proofs.YtmepaeahchiglaaGreatDoor
def jP (v : Nat) (x : Nd) : Bool := (if v = 0 then decide (x.1 = -1) else decide (0 ≤ x.1) && decide (x.1 < (v : Int))) && aM x.2
def ndsOk : Nat → List Nd → Bool
 | _, [] => true
 | v, x :: l => jP v x && ndsOk (v + 1) l
def mr (t : List Nd) : Bool := decide (1 ≤ t.length) && (decide (t.length ≤ 63) && (ndsOk 0 t && decide ((t.map fun x => bs x.2).Nodup)))
def cz (t : List Nd) : Int := if mr t then 0 else 16
theorem uZ : ∀ {l : List Nd} {v : Nat}, ndsOk v l = true → ∀ (i : Nat) (hi : i < l.length), jP (v + i) l[i] = true
 | [], _, _, i, hi => absurd hi (Nat.not_lt_zero _)
 | x :: l, v, h, 0, _ => by unfold ndsOk at h; exact (Bool.and_eq_true _ _ ▸ h).1
 | x :: l, v, h, i + 1, hi => by
   unfold ndsOk at h
   have := uZ ((Bool.and_eq_true _ _ ▸ h).2) i (Nat.lt_of_succ_lt_succ hi)
   rw [show v + (i + 1) = v + 1 + i by omega]
   exact this
theorem BA : ∀ {l : List Nd} {v : Nat}, (∀ (i : Nat) (hi : i < l.length), jP (v + i) l[i] = true) → ndsOk v l = true
 | [], _, _ => rfl
 | x :: l, v, h => by
   unfold ndsOk
   rw [Bool.and_eq_true]
   refine ⟨h 0 (Nat.zero_lt_succ _), BA fun i hi => ?_⟩
   have := h (i + 1) (Nat.succ_lt_succ hi)
   rw [show v + 1 + i = v + (i + 1) by omega]
   exact this
def yC (t : List Nd) (k : Nat) : Prop := (∀ (i : Nat) (hi : i < t.length), i < k → jP i t[i] = true) ∧ ((t.take k).map fun x => bs x.2).Nodup
theorem vO (t : List Nd) : yC t 0 := ⟨fun i _ h => absurd h (Nat.not_lt_zero _), by simp⟩
theorem vP {t : List Nd} {k : Nat} (hk : k < t.length) (h : yC t k) (h1 : jP k t[k] = true) (h2 : ∀ x ∈ t.take k, bs x.2 ≠ bs t[k].2) : yC t (k + 1) := by
 refine ⟨fun i hi hlt => ?_, ?_⟩
 ·rcases Nat.lt_succ_iff_lt_or_eq.1 hlt with h3 | rfl
  ·exact h.1 i hi h3
  ·exact h1
 ·rw [List.take_succ_eq_append_getElem hk, List.map_append, List.nodup_append]
  refine ⟨h.2, by simp, fun a ha b hb => ?_⟩
  obtain ⟨x, hx, rfl⟩ := List.mem_map.1 ha
  simp only [List.map_cons, List.map_nil, List.mem_singleton] at hb
  subst hb
  exact h2 x hx
theorem yB {t : List Nd} (h : yC t t.length) (h1 : 1 ≤ t.length) (h2 : t.length ≤ 63) : cz t = 0 := by
 unfold cz mr
 rw [decide_eq_true h1, decide_eq_true h2, BA (v := 0) (fun i hi => by rw [Nat.zero_add]; exact h.1 i hi hi), decide_eq_true (by have := h.2; rwa [List.take_length] at this)]
 rfl
theorem ry {t : List Nd} {k : Nat} (hk : k < t.length) (h1 : jP k t[k] = false) : cz t = 16 := by
 unfold cz
 rw [if_neg]
 intro h
 unfold mr at h
 simp only [Bool.and_eq_true] at h
 have := uZ h.2.2.1 k hk
 rw [Nat.zero_add, h1] at this
 cases this
theorem qj {t : List Nd} (h : t.length = 0 ∨ 63 < t.length) : cz t = 16 := by
 unfold cz
 rw [if_neg]
 intro h1
 unfold mr at h1
 simp only [Bool.and_eq_true, decide_eq_true_eq] at h1
 omega
theorem yH {t : List Nd} {i k : Nat} (hk : k < t.length) (hi : i < k) (h : bs (t[i]'(Nat.lt_trans hi hk)).2 = bs t[k].2) : cz t = 16 := by
 unfold cz
 rw [if_neg]
 intro h1
 unfold mr at h1
 simp only [Bool.and_eq_true, decide_eq_true_eq] at h1
 have hn := h1.2.2.2
 rw [List.nodup_iff_pairwise_ne, List.pairwise_iff_getElem] at hn
 have := hn i k (by rw [List.length_map]; omega) (by rw [List.length_map]; exact hk) hi
 rw [List.getElem_map, List.getElem_map] at this
 exact this h
def lensL (t : List Nd) (on : List (List Int)) : Nat → List Nat
 | 0 => []
 | k + 1 => lensL t on k ++ [(on[k]?.getD []).length + (if 0 ≤ (t[k]?.getD (-1, ⟨#[]⟩)).1 then (lensL t on k)[(t[k]?.getD (-1, ⟨#[]⟩)).1.toNat]?.getD 0 else 0)]
theorem jm (t : List Nd) (on : List (List Int)) : ∀ k, (lensL t on k).length = k
 | 0 => rfl
 | k + 1 => by unfold lensL; rw [List.length_append, jm t on k]; rfl
def fE (t : List Nd) (on : List (List Int)) (k : Nat) : Bool := (lensL t on k).all fun n => decide (n ≤ 64)
def cZ (m : Nat) (on : List (List Int)) : Bool := on.all fun l => l.all fun x => decide (0 ≤ x ∧ x < (m : Int))
def dN (t : List Nd) (au : List Lw) (on : List (List Int)) : Int :=
 if cz t = 0 then (if 64 < au.length then 12 else if au.all dE then (if (au.map fun l => bs l.name).Nodup then (if on.length = t.length then (if fE t on on.length then (if cZ au.length on then 0 else 3) else 2) else 2) else 6) else 17) else 16
def jG (t : List Nd) : List Nat := (List.range t.length).filter fun v => t.all fun x => decide (x.1 ≠ (v : Int))
def bS (l : List Fm) : Bool := l.all fun f => f.has || decide (f.w.length = 0)
def aV : List Fm → Int
 | [] => 0
 | f :: l => if bF f.w = 0 then aV l else bF f.w
def iT : List En → Int
 | [] => 0
 | x :: l => if aV x.bU = 0 then iT l else aV x.bU
def Ex (t : List Nd) (au : List Lw) (on : List (List Int)) (aA : List Fm) (es : List En) : Int :=
 if dN t au on = 0 then (if 256 < es.length then 12 else if aA.length = es.length ∧ bS aA = true then
  (if es.all (fun x => decide (x.bU.length = (jG t).length) && bS x.bU) = true then (if es.all (fun x => aM x.bX) = true then (if aV aA = 0 then iT es else aV aA) else 15) else 2) else 2) else dN t au on
def jL (n : Nat) : List fw → List fw → Int
 | _, [] => 0
 | L, x :: r => if gX n L x.1 x.2 = 0 then jL n (L ++ [x]) r else gX n L x.1 x.2
def ku (p : Pj) : Int := if eO p.aK = 0 then (if jL p.aK.length [] p.aG = 0 then jd p.aK.length p.marks else jL p.aK.length [] p.aG) else eO p.aK
def iX (p : Pj) : Int := if ku p = 0 then Ex p.tree p.au p.on p.aA p.entries else ku p
open Go.Lib Go.RowKit
def gH (bs : List Nat) : ByteArray := ⟨(bs.map UInt8.ofNat).toArray⟩
theorem eX {w : World} {B : Nat} {A : Option Addr} {n c : Nat} {bs : List Nat} (h : Reads w B 1 A n (bs.map bv)) (hb : ∀ b ∈ bs, b < 256) : (convert 36 9 (.slice A n c)).run Tryz.prog w = .ok (.string (gH bs)) w := by
 have hl : (bs.map UInt8.ofNat).length = n := by have := h.1; simpa using this
 rcases Nat.eq_zero_or_pos n with h0 | h0
 ·subst h0
  obtain rfl : bs = [] := by
   have := h.1
   simpa using this
  rw [run_convert_bytes_string w 36 9 5 A 0 c Tryz.underlying36 Tryz.underlying5 Tryz.underlying9]
  cases A <;> rfl
 ·obtain ⟨ad, rfl, _, hc⟩ := h.2 h0
  rw [← hl]
  refine run_convert_bytes_back (P := Tryz.prog) w 36 9 5 ad c (bs.map UInt8.ofNat) Tryz.underlying36 Tryz.underlying5 Tryz.underlying9 (fun j hj => ?_)
  have hj' : j < bs.length := by simpa using hj
  refine hc j _ ?_
  rw [List.getElem?_map, List.getElem?_eq_getElem hj']
  have := hb _ (List.getElem_mem hj')
  simp [bv, Nat.mod_eq_of_lt this]
theorem IU {a b : List Nat} (ha : ∀ x ∈ a, x < 256) (hb : ∀ x ∈ b, x < 256) (h : gH a = gH b) : a = b := by
 have h' : a.map UInt8.ofNat = b.map UInt8.ofNat := by simpa [gH] using h
 have key : ∀ l : List Nat, (∀ x ∈ l, x < 256) → (l.map UInt8.ofNat).map UInt8.toNat = l := by
  intro l hl
  rw [List.map_map]
  conv => rhs; rw [← List.map_id l]
  exact List.map_congr_left fun x hx => by have := hl x hx; simp [Nat.mod_eq_of_lt this]
 rw [← key a ha, ← key b hb, h']
theorem LW {a b : List Nat} (ha : ∀ x ∈ a, x < 256) (hb : ∀ x ∈ b, x < 256) : ((gH a).toList == (gH b).toList) = decide (a = b) := by
 rcases Decidable.em (a = b) with h | h
 ·subst h; simp
 ·rw [decide_eq_false h, beq_eq_false_iff_ne]
  intro h'
  exact h (IU ha hb (ByteArray.ext (Array.toList_inj.mp (by rw [← ByteArray.toList_eq, ← ByteArray.toList_eq]; exact h'))))
theorem mV (A A' : Option Addr) (n n' c c' B : Nat) (a b : List Nat) (w : World) (ha : Reads w B 1 A n (a.map bv)) (hb : Reads w B 1 A' n' (b.map bv)) (h1 : ∀ x ∈ a, x < 256) (h2 : ∀ x ∈ b, x < 256) :
 Calls Tryz.prog 12 #[.slice A n c, .slice A' n' c'] w fun e w' => e = .returned (.bool (decide (a = b))) ∧ w = w' := by
 have hc1 := eX (c := c) ha h1
 have hc2 := eX (c := c') hb h2
 have heq := LW h1 h2
 generalize decide (a = b) = r at *
 generalize gH a = x at *
 generalize gH b = y at *
 clear ha hb h1 h2
 go_enter Tryz.func12, Tryz.ntmps12
 go_wp2
 go_ret
 exact ⟨rfl, rfl⟩
theorem pq (A A' : Option Addr) (n n' c c' B : Nat) (a b : List Snd) (w : World) (ha : Reads w B 2 A n (a.flatMap gL)) (hb : Reads w B 2 A' n' (b.flatMap gL)) (hB : B ≤ w.heap.size) (hn : n ≤ maxLen) :
 Calls Tryz.prog 35 #[.slice A n c, .slice A' n' c'] w fun e w' => e = .returned (.bool (decide (a = b))) ∧ w.heap = w'.heap ∧ Below w.heap.size w w' := by
 unfold maxLen at hn
 have hal := ha.iD (fun _ => rfl) (by decide)
 have hbl := hb.iD (fun _ => rfl) (by decide)
 obtain ⟨r, hr⟩ : ∃ r, decide (a = b) = r := ⟨_, rfl⟩
 rw [hr]
 have HA := qh ha; have HB := qh hb; have Qb := qh hal; have oU := qh hbl; have HR := qh hr
 clear ha hb hal hbl hr
 by_cases hnn : n = n'
 ·subst hnn
  go_enter Tryz.func35, Tryz.ntmps35
  go_wp2
  go_loopw [5] (fun i wr => ∃ k : Nat, k ≤ n ∧ i = .int .i64 k ∧ a.take k = b.take k ∧ w.heap = wr.heap ∧ Below w.heap.size w wr) (fun i _ => n - (RowKit.intOf i).toNat)
  case atStart => exact ⟨0, by omega, rfl, rfl, rfl, Below.refl _ _⟩
  case round =>
   obtain ⟨k, hk, rfl, heq, hh, hbw⟩ := hrel
   have PW := qh heq; have aQ := qh hbw; have HH := qh hh
   clear heq hbw hh
   by_cases hlt : k < n
   ·have hka : k < a.length := by rw [Qb.out]; exact hlt
    have hkb : k < b.length := by rw [oU.out]; exact hlt
    have cB : (k : Int) < (n : Int) := by omega
    obtain ⟨ad, rfl, had, hc0, hc1⟩ := fA (HA.out.below (aQ.out.mono hB)) hka
    obtain ⟨ad', rfl, W9, hc0', hc1'⟩ := fA (HB.out.below (aQ.out.mono hB)) hkb
    have hT : a.take (k + 1) = b.take (k + 1) ↔ a[k] = b[k] := by
     have e1 := List.take_succ_eq_append_getElem hka
     have e2 := List.take_succ_eq_append_getElem hkb
     rw [e1, e2, PW.out]
     exact ⟨fun h => by have := List.append_cancel_left h; simpa using this, fun h => by rw [h]⟩
    have hne : a[k] ≠ b[k] → r = false := fun h => by
     rw [← HR.out, decide_eq_false]
     rintro rfl
     exact h rfl
    generalize a[k] = s at *
    generalize b[k] = t at *
    have HT := qh hT; have HN := qh hne
    clear hT hne
    by_cases h1 : s.1 = t.1
    ·by_cases h2 : s.2 = t.2
     ·have e1 : ((s.1 : Int) == (t.1 : Int)) = true := by rw [h1]; simp
      have e2 : ((s.2 : Int) == (t.2 : Int)) = true := by rw [h2]; simp
      have aF : s = t := Prod.ext h1 h2
      have bL := qh aF
      clear h1 h2 aF
      go_wp2
      go_region
      go_wp2
      go_roundw
      case rel => exact ⟨k + 1, by omega, by go_num, HT.out.2 bL.out, HH.out, aQ.out.drew⟩
      case measure => simp [RowKit.intOf]; omega
     ·have e1 : ((s.1 : Int) == (t.1 : Int)) = true := by rw [h1]; simp
      have e2 : ((s.2 : Int) == (t.2 : Int)) = false := by rw [beq_eq_false_iff_ne]; omega
      have hr0 := HN.out (fun h => h2 (by rw [h]))
      subst hr0
      clear h1 h2
      go_wp2
      go_region
      go_wp2
      go_ret
      exact ⟨rfl, HH.out, aQ.out.drew⟩
    ·have e1 : ((s.1 : Int) == (t.1 : Int)) = false := by rw [beq_eq_false_iff_ne]; omega
     have hr0 := HN.out (fun h => h1 (by rw [h]))
     subst hr0
     clear h1
     go_wp2
     go_region
     go_wp2
     go_ret
     exact ⟨rfl, HH.out, aQ.out.drew⟩
   ·obtain rfl : k = n := by omega
    have hr1 : r = true := by
     rw [← HR.out, decide_eq_true_eq]
     have h := PW.out
     rw [List.take_of_length_le (by rw [Qb.out]; exact Nat.le_refl _), List.take_of_length_le (by rw [oU.out]; exact Nat.le_refl _)] at h
     exact h
    subst hr1
    go_wp2
    go_ret
    exact ⟨rfl, HH.out, aQ.out⟩
 ·have hr0 : r = false := by
   rw [← HR.out, decide_eq_false]
   rintro rfl
   exact hnn (Qb.out.symm.trans oU.out)
  subst hr0
  have OH : ((n : Int) != (n' : Int)) = true := by rw [bne_iff_ne]; omega
  go_enter Tryz.func35, Tryz.ntmps35
  go_wp2
  go_ret
  exact ⟨rfl, rfl, Below.refl _ _⟩
end Go.Proofs.YtmepaeahchiglaaGreatDoor
namespace Go.Proofs.YtmepaeahchiglaaGreatDoor
def manyS (get : Nat → Rdr (Pt × Nat)) : Nat → Nat → Rdr (List Pt × Nat)
 | 0, left => fun b => some (([], left), b)
 | n + 1, left => thenR (get left) fun x => thenR (manyS get n x.2) fun l r => some ((x.1 :: l.1, l.2), r)
def mM (get : Nat → Rdr (Pt × Nat)) (left : Nat) : Rdr (Pt × Nat) := thenR readN fun k =>
 if k = 1 then thenR sndR fun s => thenR jZ fun neg r => some ((.mk 1 s neg 0 0 [], left), r)
 else if k = 3 ∨ k = 4 then thenR countR fun n => thenR (manyS get n left) fun x r => some ((.mk k (0, 0) false 0 0 x.1, x.2), r)
 else if k = 5 then thenR readN fun lo => thenR readN fun hi => thenR (manyS get 1 left) fun x r => some ((.mk 5 (0, 0) false lo ((hi : Int) - 1) x.1, x.2), r)
 else fun r => some ((.mk k (0, 0) false 0 0 [], left), r)
def fD : Nat → Nat → Rdr (Pt × Nat)
 | 0, _ => fun _ => none
 | f + 1, left => if left = 0 then fun _ => none else mM (fD f) (left - 1)
theorem nG (f : Nat) (b : List Nat) : fD f 0 b = none := by
 cases f with
 | zero => rfl
 | succ f => show (if (0 : Nat) = 0 then _ else _ : Rdr (Pt × Nat)) b = none; rw [if_pos rfl]
theorem nH (f left : Nat) (b : List Nat) : fD (f + 1) (left + 1) b = mM (fD f) left b := by
 show (if left + 1 = 0 then _ else _ : Rdr (Pt × Nat)) b = _
 rw [if_neg (by omega)]; rfl
def Down (get : Nat → Rdr (Pt × Nat)) : Prop := ∀ left b p left' r, get left b = some ((p, left'), r) → ptSize p + left' = left
theorem oJ {get : Nat → Rdr (Pt × Nat)} (h : Down get) : ∀ (n left : Nat) (b : List Nat) (l : List Pt) (left' : Nat) (r : List Nat), manyS get n left b = some ((l, left'), r) → l.length = n ∧ ptSizes l + left' = left
 | 0, left, b, l, left', r, e => by
   have e2 : ([] : List Pt) = l ∧ left = left' := by
    injection e with e
    injection e with e _
    injection e with e1 e2
    exact ⟨e1, e2⟩
   obtain ⟨rfl, rfl⟩ := e2
   exact ⟨rfl, by rw [bO, Nat.zero_add]⟩
 | n + 1, left, b, l, left', r, e => by
   obtain ⟨⟨p, l1⟩, s, h1, e⟩ := thenR_out (show thenR (get left) (fun x => thenR (manyS get n x.2) fun l r => some ((x.1 :: l.1, l.2), r)) b = some ((l, left'), r) from e)
   obtain ⟨⟨l2, l3⟩, t, h2, e⟩ := thenR_out e
   simp only [Option.some.injEq, Prod.mk.injEq] at e
   obtain ⟨⟨rfl, rfl⟩, rfl⟩ := e
   have := h _ _ _ _ _ h1
   obtain ⟨i1, i2⟩ := oJ h n l1 s l2 l3 t h2
   refine ⟨by rw [List.length_cons, i1], ?_⟩
   rw [aR]; omega
theorem DF {get : Nat → Rdr (Pt × Nat)} (h : Down get) {left : Nat} {b : List Nat} {p : Pt} {left' : Nat} {r : List Nat} (e : mM get left b = some ((p, left'), r)) : ptSize p + left' = left + 1 := by
 unfold mM at e
 obtain ⟨k, s, h1, e⟩ := thenR_out e
 split at e
 ·obtain ⟨sd, t, h2, e⟩ := thenR_out e
  obtain ⟨neg, u, h3, e⟩ := thenR_out e
  simp only [Option.some.injEq, Prod.mk.injEq] at e
  obtain ⟨⟨rfl, rfl⟩, rfl⟩ := e
  rw [dK, bO]; omega
 ·split at e
  ·obtain ⟨n, t, h2, e⟩ := thenR_out e
   obtain ⟨⟨l2, l3⟩, u, h3, e⟩ := thenR_out e
   simp only [Option.some.injEq, Prod.mk.injEq] at e
   obtain ⟨⟨rfl, rfl⟩, rfl⟩ := e
   have := (oJ h _ _ _ _ _ _ h3).2
   rw [dK]; omega
  ·split at e
   ·obtain ⟨lo, t, h2, e⟩ := thenR_out e
    obtain ⟨hi, u, h3, e⟩ := thenR_out e
    obtain ⟨⟨l2, l3⟩, v, h4, e⟩ := thenR_out e
    simp only [Option.some.injEq, Prod.mk.injEq] at e
    obtain ⟨⟨rfl, rfl⟩, rfl⟩ := e
    have := (oJ h _ _ _ _ _ _ h4).2
    rw [dK]; omega
   ·simp only [Option.some.injEq, Prod.mk.injEq] at e
    obtain ⟨⟨rfl, rfl⟩, rfl⟩ := e
    rw [dK, bO]; omega
theorem yg : ∀ f, Down (fD f)
 | 0 => fun _ _ _ _ _ e => by cases e
 | f + 1 => fun left b p left' r e => by
   cases left with
   | zero => rw [nG] at e; cases e
   | succ left => rw [nH] at e; exact DF (yg f) e
theorem yu {get : Nat → Rdr (Pt × Nat)} {left : Nat} {b : List Nat} : manyS get 1 left b = thenR (get left) (fun x r => some (([x.1], x.2), r)) b := by
 show thenR (get left) (fun x => thenR (manyS get 0 x.2) fun l r => some ((x.1 :: l.1, l.2), r)) b = _
 cases h : get left b with
 | none => rw [thenR_none h, thenR_none h]
 | some q => obtain ⟨x, r⟩ := q; rw [thenR_some h, thenR_some h]; rfl
def sH (xs : List Pt) (o : Option ((List Pt × Nat) × List Nat)) : Option ((List Pt × Nat) × List Nat) := o.map fun p => ((xs ++ p.1.1, p.1.2), p.2)
theorem uN (o : Option ((List Pt × Nat) × List Nat)) : sH [] o = o := by cases o <;> rfl
theorem qR {xs : List Pt} {get : Nat → Rdr (Pt × Nat)} {left : Nat} {b : List Nat} (n : Nat) (h : get left b = none) : sH xs (manyS get (n + 1) left b) = none := by
 show sH xs (thenR (get left) _ b) = none
 rw [thenR_none h]; rfl
theorem qQ {xs : List Pt} {get : Nat → Rdr (Pt × Nat)} {left left' : Nat} {b r : List Nat} {p : Pt} (n : Nat) (h : get left b = some ((p, left'), r)) : sH xs (manyS get (n + 1) left b) = sH (xs ++ [p]) (manyS get n left' r) := by
 show sH xs (thenR (get left) (fun x => thenR (manyS get n x.2) fun l r => some ((x.1 :: l.1, l.2), r)) b) = _
 rw [thenR_some h]
 cases h2 : manyS get n left' r with
 | none => rw [thenR_none h2]; rfl
 | some q => obtain ⟨l, t⟩ := q; rw [thenR_some h2]; simp [sH]
def ja : Rdr Ot := thenR readN fun a => thenR readN fun c => thenR sndR fun s => thenR readN fun t => thenR readN fun o r => some (⟨(a : Int) - 1, c, s, t, o⟩, r)
def bg : Rdr ByteArray := thenR countR fun n r => some (gH (r.take n), r.drop n)
def kJ : Rdr Pt := thenR (fD 41 40) fun x r => some (x.1, r)
def jH : Rdr Lw := thenR bg fun nm => thenR kJ fun a => thenR kJ fun b => thenR wordR fun ifs => thenR (someR ja) fun outs => thenR readN fun m r => some (⟨nm, a, b, ifs, outs, m⟩, r)
end Go.Proofs.YtmepaeahchiglaaGreatDoor
