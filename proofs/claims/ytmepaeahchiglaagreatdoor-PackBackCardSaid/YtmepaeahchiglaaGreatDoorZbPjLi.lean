/-
  layer 43: the program's Check of bytes; PackBack: the walk. Conditions: a project that can be read. (Printed by packback.py.)
-/
import Derived.Test.YtmepaeahchiglaaGreatDoorZbPjGs3
import Derived.Test.YtmepaeahchiglaaGreatDoorZbbd
import Derived.Test.YtmepaeahchiglaaGreatDoorZbbf
namespace Go.Proofs.YtmepaeahchiglaaGreatDoor
open Go.RowKit Go.Lib

set_option linter.unusedSimpArgs false in
set_option maxRecDepth 20000 in
set_option maxHeartbeats 4000000 in
theorem checkB_any (w : World) (A : Option Addr) (n c B : Nat) (bs : List Nat) (hr : Reads w B 1 A n (bs.map bv)) (hB : B ≤ w.heap.size) (hn : n ≤ c) (hc : c ≤ maxLen) (hs : n ≤ 1000000000) (hb : ∀ b ∈ bs, b < 256) :
    Calls Tryz.prog 18 #[.slice A n c] w fun e w' => e = .returned (.int .i64 (getP bs).2) ∧ Below w.heap.size w w' := by
  have hcall := getP_any w A n c B bs hr hB hn hc hs hb
  generalize getP bs = x at *
  obtain ⟨p, er⟩ := x
  clear hr hb
  go_enter Tryz.func18, Tryz.ntmps18
  go_wp2_with fail
  refine hcall.mono ?_
  rintro e w1 ⟨cs, rfl, hpf, hb1⟩
  obtain ⟨v1, v2, v3, v4, v5, v6, v7, v8, rfl, x1, x2, x3, x4, x5, x6, x7, x8⟩ := hpf
  obtain ⟨B1, b1, rfl⟩ := x1.form
  obtain ⟨B2, b2, rfl⟩ := x2.form
  obtain ⟨B3, b3, rfl⟩ := x3.form
  obtain ⟨B4, b4, rfl⟩ := x4.form
  obtain ⟨B5, b5, rfl⟩ := x5.form
  obtain ⟨B6, b6, rfl⟩ := x6.form
  obtain ⟨B7, b7, rfl⟩ := x7.form
  obtain ⟨B8, b8, rfl⟩ := x8.form
  have hb2 := hb1.alloc hb1.size (.cells #[.slice B1 p.feats.length b1, .slice B2 p.sounds.length b2, .slice B3 p.marks.length b3, .slice B4 p.tree.length b4, .slice B5 p.laws.length b5, .slice B6 p.on.length b6, .slice B7 p.protos.length b7, .slice B8 p.entries.length b8] 33)
  have HB2 := Lib.hid hb2
  clear hcall hb1 hb2 x1 x2 x3 x4 x5 x6 x7 x8
  go_wp2
  go_ret
  exact ⟨rfl, HB2.out⟩
set_option linter.unusedSimpArgs false in
set_option linter.unusedVariables false in
set_option maxRecDepth 20000 in
set_option maxHeartbeats 8000000 in
theorem packBack_law (w : World) (p : Pj) (cs : List Value) (hp : ProjC w w.heap.size p cs) (hr : (∀ l ∈ p.on, l.length ≤ 1000000000) → PjRd p) (h32 : ∀ l ∈ p.laws, ∀ x ∈ l.outs, is32 x.clear ∧ ok32 x.set ∧ is32 x.take) :
    Calls Tryz.prog 6 #[.agg cs.toArray] w fun e w' => e = .returned (.bool true) ∧ Below w.heap.size w w' := by
  obtain ⟨v1, v2, v3, v4, v5, v6, v7, v8, rfl, q1, q2, q3, q4, q5, q6, q7, q8⟩ := hp
  have hp : ProjC w w.heap.size p [v1, v2, v3, v4, v5, v6, v7, v8] := ⟨_, _, _, _, _, _, _, _, rfl, q1, q2, q3, q4, q5, q6, q7, q8⟩
  obtain ⟨A1, m1, c1, rfl, -⟩ := q1.form
  obtain ⟨A2, m2, c2, rfl, -⟩ := q2.form
  obtain ⟨A3, m3, c3, rfl, -⟩ := q3.form
  obtain ⟨A4, m4, c4, rfl, -⟩ := q4.form
  obtain ⟨A5, m5, c5, rfl, -⟩ := q5.form
  obtain ⟨A6, m6, c6, rfl, -⟩ := q6.form
  obtain ⟨A7, m7, c7, rfl, -⟩ := q7.form
  obtain ⟨A8, m8, c8, rfl, -⟩ := q8.form
  obtain ⟨o, ho⟩ : ∃ o, Obj.cells #[.slice A1 m1 c1, .slice A2 m2 c2, .slice A3 m3 c3, .slice A4 m4 c4, .slice A5 m5 c5, .slice A6 m6 c6, .slice A7 m7 c7, .slice A8 m8 c8] 33 = o := ⟨_, rfl⟩
  have hb0 := (Below.refl w.heap.size w).alloc (Nat.le_refl _) o
  have hk0 : Blk (w.alloc o) w.heap.size 33 #[.slice A1 m1 c1, .slice A2 m2 c2, .slice A3 m3 c3, .slice A4 m4 c4, .slice A5 m5 c5, .slice A6 m6 c6, .slice A7 m7 c7, .slice A8 m8 c8] := by rw [← ho]; exact Blk.new w _ _
  have hle1 : w.heap.size ≤ (w.alloc o).heap.size := by rw [World.size_alloc]; omega
  have hkp := fun (W : World) (hW : Below w.heap.size w W) => fun (q : Addr) (hq : q.block < w.heap.size) => hW.cell (p := q) hq
  have hli := light_any (w.alloc o) w.heap.size p _ (ProjC.keep (hkp _ hb0) hp) hle1
  have hput := fun (hrd : PjRd p) (W : World) (hW : Below w.heap.size w W) => put_any W w.heap.size p _ (ProjC.keep (hkp _ hW) hp) hW.size hrd h32
  have hlt := putP_bytes p
  obtain ⟨bs, hbs⟩ : ∃ b, putP p = b := ⟨_, rfl⟩
  obtain ⟨x, hx⟩ : ∃ x, projE p = x := ⟨_, rfl⟩
  have hck := fun (hrd : PjRd p) (W : World) (hW : Below w.heap.size w W) => check_any W w.heap.size p _ (ProjC.keep (hkp _ hW) hp) hW.size hrd
  have hpk := fun (W : World) (hW : Below w.heap.size w W) => ProjC.keep (hkp _ hW) hp
  have hok := fun (hrd : PjRd p) (h0 : projE p = 0) => PjOk.of h0 hrd h32
  have hgp := fun (hrd : PjRd p) (h0 : projE p = 0) => get_put h0 (PjOk.of h0 hrd h32) hp.law32
  have hno := @putP_no p
  have hln := fun (hrd : PjRd p) => putP_len (p := p) fun h0 => PjOk.of h0 hrd h32
  have hput2 := fun (hrd : PjRd p) (W : World) (B : Nat) (cs : List Value) (hq : ProjC W B p cs) (hB : B ≤ W.heap.size) => put_any W B p cs hq hB hrd h32
  simp only [hbs, hx] at hput hck hok hgp hno hln hput2
  rw [hbs] at hlt
  have hxx : (x == x) = true := by simp
  have HO := Lib.hid ho; have HB0 := Lib.hid hb0; have HK0 := Lib.hid hk0; have HLI := Lib.hid hli; have HPUT := Lib.hid hput; have HCK := Lib.hid hck; have HPK := Lib.hid hpk; have HGP := Lib.hid hgp; have HNO := Lib.hid hno; have HLN := Lib.hid hln; have HPUT2 := Lib.hid hput2; have HLT := Lib.hid hlt; have HR := Lib.hid hr; have HWK := Lib.hid works_any
  have g0 := hk0.cell 0; have g1 := hk0.cell 1; have g2 := hk0.cell 2; have g3 := hk0.cell 3; have g4 := hk0.cell 4; have g5 := hk0.cell 5; have g6 := hk0.cell 6; have g7 := hk0.cell 7
  simp only [List.getElem?_toArray, List.getElem?_cons_zero, List.getElem?_cons_succ] at g0 g1 g2 g3 g4 g5 g6 g7
  clear q1 q2 q3 q4 q5 q6 q7 q8 ho hb0 hk0 hkp hli hput hck hpk hok hgp hno hln hput2 hlt hr h32 hp hbs hx
  go_enter Tryz.func6, Tryz.ntmps6
  go_wp2_with (rw [HO.out])
  refine HLI.out.mono ?_
  rintro e w1 ⟨⟨b, rfl, hb⟩, hb1⟩
  have HB1 := Lib.hid (HB0.out.trans (hb1.mono hle1)); have HK1 := Lib.hid (HK0.out.below hb1 HK0.out.lt)
  have HB := Lib.hid hb
  clear hb1 hb g0 g1 g2 g3 g4 g5 g6 g7
  have g0 := HK1.out.cell 0; have g1 := HK1.out.cell 1; have g2 := HK1.out.cell 2; have g3 := HK1.out.cell 3; have g4 := HK1.out.cell 4; have g5 := HK1.out.cell 5; have g6 := HK1.out.cell 6; have g7 := HK1.out.cell 7
  simp only [List.getElem?_toArray, List.getElem?_cons_zero, List.getElem?_cons_succ] at g0 g1 g2 g3 g4 g5 g6 g7
  cases b with
  | false =>
    go_wp2_with fail
    refine (HWK.out w1).mono ?_
    rintro e w2 ⟨rfl, hb2⟩
    have HB2 := Lib.hid (HB1.out.trans (hb2.mono HB1.out.size))
    clear hb2
    go_wp2
    go_ret
    exact ⟨rfl, HB2.out⟩
  | true =>
    have hrd := HR.out (fun l hl => by have := (HB.out rfl).2 l hl; omega)
    have hc1 := HPUT.out hrd w1 HB1.out
    have HRD := Lib.hid hrd; have HC1 := Lib.hid hc1
    clear hrd hc1
    go_wp2_with fail
    refine HC1.out.mono ?_
    rintro e w2 ⟨va, rfl, hoa, hb2⟩
    obtain ⟨Aa, ca, rfl, hca1, hca2⟩ := ownsRow_form hoa
    have HB2 := Lib.hid (HB1.out.trans (hb2.mono HB1.out.size)); have HK2 := Lib.hid (HK1.out.below hb2 HK1.out.lt); have HOA := Lib.hid hoa
    clear hb2 hoa g0 g1 g2 g3 g4 g5 g6 g7
    have g0 := HK2.out.cell 0; have g1 := HK2.out.cell 1; have g2 := HK2.out.cell 2; have g3 := HK2.out.cell 3; have g4 := HK2.out.cell 4; have g5 := HK2.out.cell 5; have g6 := HK2.out.cell 6; have g7 := HK2.out.cell 7
    simp only [List.getElem?_toArray, List.getElem?_cons_zero, List.getElem?_cons_succ] at g0 g1 g2 g3 g4 g5 g6 g7
    have hc2 := HCK.out HRD.out w2 HB2.out
    have HC2 := Lib.hid hc2
    clear hc2
    go_wp2_with fail
    refine HC2.out.mono ?_
    rintro e w3 ⟨rfl, hb3⟩
    have HB3 := Lib.hid (HB2.out.trans (hb3.mono HB2.out.size)); have HOA3 := Lib.hid (own_below' HOA.out hb3); have HK3 := Lib.hid (HK2.out.below hb3 HK2.out.lt)
    clear hb3 g0 g1 g2 g3 g4 g5 g6 g7
    by_cases h0 : x = 0
    case neg =>
      have hx0 : (x != (0 : Int)) = true := by rw [bne_iff_ne]; exact h0
      have hl0 : bs.length = 0 := by rw [HNO.out h0]; rfl
      have HX0 := Lib.hid hl0
      obtain ⟨nb, hnb⟩ : ∃ nb, bs.length = nb := ⟨_, rfl⟩
      rw [hnb] at hl0 ⊢
      subst hl0
      clear h0 hnb
      go_wp2_with fail
      refine (HWK.out w3).mono ?_
      rintro e w4 ⟨rfl, hb4⟩
      have HB4 := Lib.hid (HB3.out.trans (hb4.mono HB3.out.size))
      clear hb4
      go_wp2
      go_ret
      exact ⟨rfl, HB4.out⟩
    subst h0
    have hln := HLN.out HRD.out
    have hgp := HGP.out HRD.out rfl
    have hget := getP_any w3 Aa bs.length ca w3.heap.size bs (Reads.of_own HOA3.out) (Nat.le_refl _) hca1 hca2 hln HLT.out
    rw [hgp] at hget
    have HGET := Lib.hid hget; have HGPE := Lib.hid hgp
    clear hget hgp
    go_wp2_with fail
    refine HGET.out.mono ?_
    rintro e w4 ⟨cs, rfl, hpf, hb4⟩
    have hb4' := HB3.out.trans (hb4.mono HB3.out.size)
    have hk4 := HK3.out.below hb4 HK3.out.lt
    have hoa4 := own_below' HOA3.out hb4
    have hpc := ProjF.toC (B := w4.heap.size) (fun b hb => hb.2) hpf
    obtain ⟨v1, v2, v3, v4, v5, v6, v7, v8, rfl, x1, x2, x3, x4, x5, x6, x7, x8⟩ := hpf
    obtain ⟨B1, b1, rfl⟩ := x1.form
    obtain ⟨B2, b2, rfl⟩ := x2.form
    obtain ⟨B3, b3, rfl⟩ := x3.form
    obtain ⟨B4, b4, rfl⟩ := x4.form
    obtain ⟨B5, b5, rfl⟩ := x5.form
    obtain ⟨B6, b6, rfl⟩ := x6.form
    obtain ⟨B7, b7, rfl⟩ := x7.form
    obtain ⟨B8, b8, rfl⟩ := x8.form
    clear x1 x2 x3 x4 x5 x6 x7 x8
    obtain ⟨W5, hW5⟩ : ∃ W, w4.alloc (.cells #[.slice B1 p.feats.length b1, .slice B2 p.sounds.length b2, .slice B3 p.marks.length b3, .slice B4 p.tree.length b4, .slice B5 p.laws.length b5, .slice B6 p.on.length b6, .slice B7 p.protos.length b7, .slice B8 p.entries.length b8] 33) = W := ⟨_, rfl⟩
    have hbw := (Below.refl w4.heap.size w4).alloc (Nat.le_refl _) (.cells #[.slice B1 p.feats.length b1, .slice B2 p.sounds.length b2, .slice B3 p.marks.length b3, .slice B4 p.tree.length b4, .slice B5 p.laws.length b5, .slice B6 p.on.length b6, .slice B7 p.protos.length b7, .slice B8 p.entries.length b8] 33)
    have hx5 := Blk.new w4 33 #[.slice B1 p.feats.length b1, .slice B2 p.sounds.length b2, .slice B3 p.marks.length b3, .slice B4 p.tree.length b4, .slice B5 p.laws.length b5, .slice B6 p.on.length b6, .slice B7 p.protos.length b7, .slice B8 p.entries.length b8]
    rw [hW5] at hbw hx5
    have hb5 := hb4'.trans (hbw.mono hb4'.size)
    have hk5 := hk4.below hbw hk4.lt
    have hoa5 := own_below' hoa4 hbw
    have hpc5 : ProjC W5 w4.heap.size p _ := ProjC.keep (fun q hq => hbw.cell (p := q) hq) hpc
    have hput5 := HPUT2.out HRD.out W5 w4.heap.size _ hpc5 hbw.size
    have HW5 := Lib.hid hW5; have HB5 := Lib.hid hb5; have HK5 := Lib.hid hk5; have HOA5 := Lib.hid hoa5; have HPC5 := Lib.hid hpc5; have HPUT5 := Lib.hid hput5; have HX5 := Lib.hid hx5
    have d0 := hx5.cell 0; have d1 := hx5.cell 1; have d2 := hx5.cell 2; have d3 := hx5.cell 3; have d4 := hx5.cell 4; have d5 := hx5.cell 5; have d6 := hx5.cell 6; have d7 := hx5.cell 7
    simp only [List.getElem?_toArray, List.getElem?_cons_zero, List.getElem?_cons_succ] at d0 d1 d2 d3 d4 d5 d6 d7
    have hszw : w4.heap.size ≤ W5.heap.size := hbw.size
    have hx5lt : w4.heap.size < W5.heap.size := hx5.lt
    clear hb4 hb4' hk4 hoa4 hpc hW5 hbw hx5 hb5 hk5 hoa5 hpc5 hput5
    go_wp2_with (rw [HW5.out])
    refine HPUT5.out.mono ?_
    rintro e w6 ⟨vc, rfl, hoc, hb6⟩
    obtain ⟨Ac, cc, rfl, hcc1, hcc2⟩ := ownsRow_form hoc
    have hb6' := HB5.out.trans (hb6.mono HB5.out.size)
    have hk6 := HK5.out.below hb6 HK5.out.lt
    have hx6 := HX5.out.below hb6 hx5lt
    have hoa6 := own_below' HOA5.out hb6
    have hpq6 := ProjC.keep (fun q hq => hb6.cell (p := q) (by omega)) HPC5.out
    have hpp6 := (HPK.out w6 hb6').more (hb6'.size)
    have hpq6' := hpq6.more (show w4.heap.size ≤ w6.heap.size from Nat.le_trans hszw hb6.size)
    have hsame := samePj_any w6 w6.heap.size p _ _ hpp6 hpq6' (Nat.le_refl _) HRD.out.o5
    have HB6 := Lib.hid hb6'; have HOA6 := Lib.hid hoa6; have HOC6 := Lib.hid hoc; have HSAME := Lib.hid hsame
    clear d0 d1 d2 d3 d4 d5 d6 d7
    have g0 := hk6.cell 0; have g1 := hk6.cell 1; have g2 := hk6.cell 2; have g3 := hk6.cell 3; have g4 := hk6.cell 4; have g5 := hk6.cell 5; have g6 := hk6.cell 6; have g7 := hk6.cell 7
    simp only [List.getElem?_toArray, List.getElem?_cons_zero, List.getElem?_cons_succ] at g0 g1 g2 g3 g4 g5 g6 g7
    have d0 := hx6.cell 0; have d1 := hx6.cell 1; have d2 := hx6.cell 2; have d3 := hx6.cell 3; have d4 := hx6.cell 4; have d5 := hx6.cell 5; have d6 := hx6.cell 6; have d7 := hx6.cell 7
    simp only [List.getElem?_toArray, List.getElem?_cons_zero, List.getElem?_cons_succ] at d0 d1 d2 d3 d4 d5 d6 d7
    clear hb6 hb6' hk6 hx6 hoa6 hpq6 hpp6 hpq6' hsame hoc
    go_wp2_with fail
    refine HSAME.out.mono ?_
    rintro e w7 ⟨rfl, hb7⟩
    have hoa7 := own_below' HOA6.out hb7
    have hoc7 := own_below' HOC6.out hb7
    have heq := bytesEq_any Aa Ac bs.length bs.length ca cc w7.heap.size bs bs w7 (Reads.of_own hoa7) (Reads.of_own hoc7) HLT.out HLT.out
    rw [decide_eq_true rfl] at heq
    have hchk := checkB_any w7 Aa bs.length ca w7.heap.size bs (Reads.of_own hoa7) (Nat.le_refl _) hca1 hca2 hln HLT.out
    rw [HGPE.out] at hchk
    have HEQ := Lib.hid heq; have HCHK := Lib.hid hchk; have HB7 := Lib.hid (HB6.out.trans (hb7.mono HB6.out.size))
    clear hoa7 hoc7 heq hchk hb7 d0 d1 d2 d3 d4 d5 d6 d7 g0 g1 g2 g3 g4 g5 g6 g7
    go_wp2_with (go_at_call 12; refine HEQ.out.mono ?_; rintro e w8 ⟨rfl, rfl⟩)
    refine HCHK.out.mono ?_
    rintro e w9 ⟨rfl, hb9⟩
    have HB9 := Lib.hid (HB7.out.trans (hb9.mono HB7.out.size))
    clear hb9
    go_wp2_with fail
    refine (HWK.out w9).mono ?_
    rintro e w5 ⟨rfl, hb5⟩
    have HB10 := Lib.hid (HB9.out.trans (hb5.mono HB9.out.size))
    clear hb5
    go_wp2
    go_ret
    exact ⟨rfl, HB10.out⟩
end Go.Proofs.YtmepaeahchiglaaGreatDoor
