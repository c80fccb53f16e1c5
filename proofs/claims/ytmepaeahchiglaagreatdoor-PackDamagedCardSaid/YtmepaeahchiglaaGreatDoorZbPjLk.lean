/-
  PackDamaged: the walk. Conditions: a project that can be read. (Printed by packdamaged.py.)
-/
import Derived.Test.YtmepaeahchiglaaGreatDoorZbPjGs3
import Derived.Test.YtmepaeahchiglaaGreatDoorZbbi
import Derived.Test.YtmepaeahchiglaaGreatDoorZbbf
namespace Go.Proofs.YtmepaeahchiglaaGreatDoor
open Go.RowKit Go.Lib

theorem own_some_ {w : World} {base n c size : Nat} {e : TypeId} {A : Option Addr} {xs : List Value} (h : w.ownsRow base e size (.slice A n c) n xs) (hn : 0 < n) : ∃ q cur, A = some ⟨q, 0, none⟩ ∧ base ≤ q ∧ Blk w q e cur ∧ cur.toList.take (n * size) = xs := by
  rcases h.2 with ⟨h', h''⟩ | ⟨q, cap, cur, h', hb, hg', h3, h4, hs, ht⟩
  · omega
  · simp only [Value.slice.injEq] at h'
    exact ⟨q, cur, h'.1, hb, hg', ht⟩
/-- What Get says of bytes that are no project. -/
theorem getNo {w : World} {A : Option Addr} {n c : Nat} {bs : List Nat} {e : Int} (hr : Reads w w.heap.size 1 A n (bs.map bv)) (hn : n ≤ c) (hc : c ≤ maxLen) (hs : n ≤ 1000000000) (hb : ∀ b ∈ bs, b < 256) (hg : getP bs = (noP, e)) :
    Calls Tryz.prog 15 #[.slice A n c] w fun x w' => ∃ B1 b1 B2 b2 B3 b3 B4 b4 B5 b5 B6 b6 B7 b7 B8 b8, x = .returned (.tuple #[.agg #[.slice B1 0 b1, .slice B2 0 b2, .slice B3 0 b3, .slice B4 0 b4, .slice B5 0 b5, .slice B6 0 b6, .slice B7 0 b7, .slice B8 0 b8], .int .i64 e]) ∧ ProjC w' w'.heap.size noP [.slice B1 0 b1, .slice B2 0 b2, .slice B3 0 b3, .slice B4 0 b4, .slice B5 0 b5, .slice B6 0 b6, .slice B7 0 b7, .slice B8 0 b8] ∧ Below w.heap.size w w' := by
  have h := getP_any w A n c w.heap.size bs hr (Nat.le_refl _) hn hc hs hb
  rw [hg] at h
  refine h.mono ?_
  rintro x w' ⟨cs, rfl, hpf, hb⟩
  have hpc := ProjF.toC (B := w'.heap.size) (fun b hb => hb.2) hpf
  obtain ⟨v1, v2, v3, v4, v5, v6, v7, v8, rfl, x1, x2, x3, x4, x5, x6, x7, x8⟩ := hpf
  obtain ⟨B1, b1, rfl⟩ := x1.form
  obtain ⟨B2, b2, rfl⟩ := x2.form
  obtain ⟨B3, b3, rfl⟩ := x3.form
  obtain ⟨B4, b4, rfl⟩ := x4.form
  obtain ⟨B5, b5, rfl⟩ := x5.form
  obtain ⟨B6, b6, rfl⟩ := x6.form
  obtain ⟨B7, b7, rfl⟩ := x7.form
  obtain ⟨B8, b8, rfl⟩ := x8.form
  exact ⟨B1, b1, B2, b2, B3, b3, B4, b4, B5, b5, B6, b6, B7, b7, B8, b8, rfl, hpc, hb⟩
theorem damaged_ {p : Pj} (h : projE p = 0) {k y z : Nat} (hk : (putP p)[k]? = some y) (hz : z < 256) (hne : y ≠ z) : getP ((putP p).set k z) = (noP, if k < 4 then 10 else 13) := by
  obtain ⟨hl, e⟩ := List.getElem?_eq_some_iff.1 hk
  exact damaged h hl hz (by rw [e]; exact hne)
theorem four_cells (s : Nat) : [Value.int .u8 ((s : Int) % 256), .int .u8 ((s : Int) / 256 % 256), .int .u8 ((s : Int) / 65536 % 256), .int .u8 ((s : Int) / 16777216 % 256)] = (fourB s).map bv := rfl
set_option linter.unusedSimpArgs false in
set_option linter.unusedVariables false in
set_option maxRecDepth 20000 in
set_option maxHeartbeats 8000000 in
theorem packDamaged_law (w : World) (p : Pj) (cs : List Value) (hp : ProjC w w.heap.size p cs) (hr : (∀ l ∈ p.on, l.length ≤ 1000000000) → PjRd p) (h32 : ∀ l ∈ p.laws, ∀ x ∈ l.outs, is32 x.clear ∧ ok32 x.set ∧ is32 x.take) (at_ : Nat) (hat : at_ < 65536) (by_ : UInt8) :
    Calls Tryz.prog 5 #[.agg cs.toArray, .int .u16 at_, .int .u8 by_.toNat] w fun e w' => e = .returned (.bool true) ∧ Below w.heap.size w w' := by
  obtain ⟨v1, v2, v3, v4, v5, v6, v7, v8, rfl, q1, q2, q3, q4, q5, q6, q7, q8⟩ := hp
  have hp : ProjC w w.heap.size p [v1, v2, v3, v4, v5, v6, v7, v8] := ⟨_, _, _, _, _, _, _, _, rfl, q1, q2, q3, q4, q5, q6, q7, q8⟩
  obtain ⟨A1, m1, c1, rfl, -⟩ := q1.form
  obtain ⟨A2, m2, c2, rfl, -⟩ := q2.form
  obtain ⟨A3, m3, c3, rfl, -⟩ := q3.form
  obtain ⟨A4, m4, c4, rfl, -⟩ := q4.form
  obtain ⟨A5, m5, c5, rfl, -⟩ := q5.form
  obtain ⟨A6, m6, c6, rfl, -⟩ := q6.form
  obtain ⟨A7, m7, c7, rfl, -⟩ := q7.form
  obtain ⟨A8, m8, c8, rfl, -⟩ := q8.form
  obtain ⟨o, ho⟩ : ∃ o, Obj.cells #[.slice A1 m1 c1, .slice A2 m2 c2, .slice A3 m3 c3, .slice A4 m4 c4, .slice A5 m5 c5, .slice A6 m6 c6, .slice A7 m7 c7, .slice A8 m8 c8] 33 = o := ⟨_, rfl⟩
  have hb0 := (Below.refl w.heap.size w).alloc (Nat.le_refl _) o
  have hk0 : Blk (w.alloc o) w.heap.size 33 #[.slice A1 m1 c1, .slice A2 m2 c2, .slice A3 m3 c3, .slice A4 m4 c4, .slice A5 m5 c5, .slice A6 m6 c6, .slice A7 m7 c7, .slice A8 m8 c8] := by rw [← ho]; exact Blk.new w _ _
  have hle1 : w.heap.size ≤ (w.alloc o).heap.size := by rw [World.size_alloc]; omega
  have hkp := fun (W : World) (hW : Below w.heap.size w W) => fun (q : Addr) (hq : q.block < w.heap.size) => hW.cell (p := q) hq
  have hli := light_any (w.alloc o) w.heap.size p _ (ProjC.keep (hkp _ hb0) hp) hle1
  have hput := fun (hrd : PjRd p) (W : World) (hW : Below w.heap.size w W) => put_any W w.heap.size p _ (ProjC.keep (hkp _ hW) hp) hW.size hrd h32
  have hlt := putP_bytes p
  obtain ⟨bs, hbs⟩ : ∃ b, putP p = b := ⟨_, rfl⟩
  obtain ⟨x, hx⟩ : ∃ x, projE p = x := ⟨_, rfl⟩
  have hok := fun (hrd : PjRd p) (h0 : projE p = 0) => PjOk.of h0 hrd h32
  have hbo := fun (h0 : projE p = 0) => putP_ok h0
  have hdm := fun (h0 : projE p = 0) (k y z : Nat) (h1 : (putP p)[k]? = some y) (h2 : z < 256) (h3 : y ≠ z) => damaged_ h0 h1 h2 h3
  have hom := fun (hrd : PjRd p) (h0 : projE p = 0) => one_more h0 (PjOk.of h0 hrd h32) hp.law32
  have hol := fun (hrd : PjRd p) (h0 : projE p = 0) => one_less h0 (PjOk.of h0 hrd h32) hp.law32
  have hbn := fun (hrd : PjRd p) (h0 : projE p = 0) => bodyB_small h0 (PjOk.of h0 hrd h32)
  have hb4 := bodyB_four p
  have hbl := bodyB_lt p
  obtain ⟨bd, hbd⟩ : ∃ b, bodyB p = b := ⟨_, rfl⟩
  simp only [hbs, hx, hbd] at hput hok hbo hdm hom hol hbn hb4 hbl
  rw [hbs] at hlt
  have hxx : (x == x) = true := by simp
  have HO := Lib.hid ho; have HB0 := Lib.hid hb0; have HK0 := Lib.hid hk0; have HLI := Lib.hid hli; have HPUT := Lib.hid hput; have HBO := Lib.hid hbo; have HDM := Lib.hid hdm; have HOM := Lib.hid hom; have HOL := Lib.hid hol; have HBN := Lib.hid hbn; have HB4 := Lib.hid hb4; have HBL := Lib.hid hbl; have HLT := Lib.hid hlt; have HR := Lib.hid hr; have HWK := Lib.hid works_any
  have g0 := hk0.cell 0; have g1 := hk0.cell 1; have g2 := hk0.cell 2; have g3 := hk0.cell 3; have g4 := hk0.cell 4; have g5 := hk0.cell 5; have g6 := hk0.cell 6; have g7 := hk0.cell 7
  simp only [List.getElem?_toArray, List.getElem?_cons_zero, List.getElem?_cons_succ] at g0 g1 g2 g3 g4 g5 g6 g7
  clear q1 q2 q3 q4 q5 q6 q7 q8 ho hb0 hk0 hkp hli hput hok hbo hdm hom hol hbn hb4 hbl hlt hr h32 hp hbs hx hbd
  go_enter Tryz.func5, Tryz.ntmps5
  go_wp2_with (rw [HO.out])
  refine HLI.out.mono ?_
  rintro e w1 ⟨⟨b, rfl, hb⟩, hb1⟩
  have HB1 := Lib.hid (HB0.out.trans (hb1.mono hle1)); have HK1 := Lib.hid (HK0.out.below hb1 HK0.out.lt)
  have HB := Lib.hid hb
  clear hb1 hb g0 g1 g2 g3 g4 g5 g6 g7
  have g0 := HK1.out.cell 0; have g1 := HK1.out.cell 1; have g2 := HK1.out.cell 2; have g3 := HK1.out.cell 3; have g4 := HK1.out.cell 4; have g5 := HK1.out.cell 5; have g6 := HK1.out.cell 6; have g7 := HK1.out.cell 7
  simp only [List.getElem?_toArray, List.getElem?_cons_zero, List.getElem?_cons_succ] at g0 g1 g2 g3 g4 g5 g6 g7
  cases b with
  | false =>
    go_wp2_with fail
    refine (HWK.out w1).mono ?_
    rintro e w2 ⟨rfl, hb2⟩
    have HB2 := Lib.hid (HB1.out.trans (hb2.mono HB1.out.size))
    clear hb2
    go_wp2
    go_ret
    exact ⟨rfl, HB2.out⟩
  | true =>
    have hrd := HR.out (fun l hl => by have := (HB.out rfl).2 l hl; omega)
    have hc1 := HPUT.out hrd w1 HB1.out
    have HRD := Lib.hid hrd; have HC1 := Lib.hid hc1
    clear hrd hc1
    go_wp2_with fail
    refine HC1.out.mono ?_
    rintro e w2 ⟨va, rfl, hoa, hb2⟩
    obtain ⟨Aa, ca, rfl, hca1, hca2⟩ := ownsRow_form hoa
    have HB2 := Lib.hid (HB1.out.trans (hb2.mono HB1.out.size)); have HK2 := Lib.hid (HK1.out.below hb2 HK1.out.lt); have HOA := Lib.hid hoa
    clear hb2 hoa g0 g1 g2 g3 g4 g5 g6 g7
    have g0 := HK2.out.cell 0; have g1 := HK2.out.cell 1; have g2 := HK2.out.cell 2; have g3 := HK2.out.cell 3; have g4 := HK2.out.cell 4; have g5 := HK2.out.cell 5; have g6 := HK2.out.cell 6; have g7 := HK2.out.cell 7
    simp only [List.getElem?_toArray, List.getElem?_cons_zero, List.getElem?_cons_succ] at g0 g1 g2 g3 g4 g5 g6 g7
    clear g0 g1 g2 g3 g4 g5 g6 g7
    by_cases h0 : x = 0
    case neg =>
      have hx0 : (x != (0 : Int)) = true := by rw [bne_iff_ne]; exact h0
      clear h0
      go_wp2_with fail
      refine (HWK.out w2).mono ?_
      rintro e w4 ⟨rfl, hb4⟩
      have HB4 := Lib.hid (HB2.out.trans (hb4.mono HB2.out.size))
      clear hb4
      go_wp2
      go_ret
      exact ⟨rfl, HB4.out⟩
    subst h0
    have hdm' := HDM.out rfl; have hom := HOM.out HRD.out rfl; have hol := HOL.out HRD.out rfl
    clear HDM HOM HOL
    have HDM := Lib.hid hdm'; have HOM := Lib.hid hom; have HOL := Lib.hid hol
    clear hdm' hom hol
    have hbo := HBO.out rfl
    have hbn := HBN.out HRD.out rfl
    have hb4 := HB4.out
    clear HBO HBN HB4
    have hnl : bs.length = bd.length + 4 := by rw [hbo, List.length_append]; rfl
    obtain ⟨n, hn⟩ : ∃ n, bs.length = n := ⟨_, rfl⟩
    obtain ⟨m, hm⟩ : ∃ m, bd.length = m := ⟨_, rfl⟩
    rw [hm] at hbn hb4 hnl
    rw [hn] at hca1 hnl
    have hoa' := HOA.out
    rw [hn] at hoa' ⊢
    have HOA := Lib.hid hoa'; have HN := Lib.hid hn; have HM := Lib.hid hm; have HBO := Lib.hid hbo
    have hca2m := hca2
    unfold maxLen at hca2
    clear hoa' hn hm hbo
    have hn8 : ¬ (n : Int) < 8 := by omega
    have hn8' : 8 ≤ n := by omega
    have hnb : n ≤ 900000004 := by omega
    have HNL := Lib.hid hnl
    clear hnl
    go_wp2_with fail
    refine (cloneBig_any Aa n ca (bs.map bv) w2 w2.heap.size (Reads.of_own HOA.out) (bv_one bs) (Nat.le_refl _) (by omega)).mono ?_
    rintro e w5 ⟨v5, rfl, ho5, hb5⟩
    obtain ⟨A5, c5, rfl, hc51, hc52⟩ := ownsRow_form ho5
    obtain ⟨q, cur, rfl, hq, hblk, hcur⟩ := own_some_ ho5 (by omega)
    rw [Nat.mul_one] at hcur
    obtain ⟨k, hk0⟩ : ∃ i, at_ % n = i := ⟨_, rfl⟩
    have hkn : k < n := hk0 ▸ Nat.mod_lt _ (by omega)
    have hkI : (at_ : Int) % (n : Int) = (k : Int) := by rw [← hk0]; rfl
    have hkl : (k : Int) < (n : Int) := by omega
    have hkz : (0 : Int) ≤ (k : Int) := by omega
    have hkb : k < bs.length := by rw [HN.out]; exact hkn
    have hcell : w5.cell? ⟨q, k, none⟩ = some (bv bs[k]) := by
      rw [hblk.cell k, ← Array.getElem?_toList]
      have := congrArg (fun l => l[k]?) hcur
      simp only [List.getElem?_take, if_pos hkn, List.getElem?_map, List.getElem?_eq_getElem hkb, Option.map_some] at this
      exact this
    have hfz := hblk.frozen k
    obtain ⟨y, hy⟩ : ∃ y, bs[k] = y := ⟨_, rfl⟩
    rw [hy] at hcell
    have hy256 : y < 256 := by rw [← hy]; exact HLT.out _ (List.getElem_mem hkb)
    obtain ⟨z, hz0⟩ : ∃ z, y ^^^ max by_.toNat 1 = z := ⟨_, rfl⟩
    have hbt := by_.toNat_lt
    have hzb : bits .xor .u8 (y : Int) (max (by_.toNat : Int) 1) = (z : Int) := by
      have e : (max (by_.toNat : Int) 1) = ((max by_.toNat 1 : Nat) : Int) := by omega
      rw [e, u8_xor_nat _ _ hy256 (by omega), hz0]
    have hz256 : z < 256 := by
      rw [← hz0]
      exact Nat.xor_lt_two_pow (n := 8) hy256 (by omega)
    have hzne : y ≠ z := by
      rw [← hz0]
      intro h
      have h2 := congrArg (fun t => y ^^^ t) h.symm
      simp only [← Nat.xor_assoc, Nat.xor_self, Nat.zero_xor] at h2
      omega
    have hdm := HDM.out k y z (by rw [List.getElem?_eq_getElem hkb, hy]) hz256 hzne
    have ho6 : (w5.setCell ⟨q, k, none⟩ (.int .u8 (z : Int))).ownsRow w2.heap.size 5 1 (.slice (some ⟨q, 0, none⟩) n c5) n ((bs.set k z).map bv) := by
      rw [List.map_set]; exact own_set (k := k) ho5 (.int .u8 (z : Int))
    have hb6 : Below w.heap.size w (w5.setCell ⟨q, k, none⟩ (.int .u8 (z : Int))) := (HB2.out.trans (hb5.mono HB2.out.size)).setCell (by show w.heap.size ≤ q; have := HB2.out.size; omega) _
    have hl6 : ∀ x ∈ bs.set k z, x < 256 := fun x hx => by
      rcases List.mem_or_eq_of_mem_set hx with h2 | h2
      · exact HLT.out x h2
      · rw [h2]; exact hz256
    have hr6 : Reads (w5.setCell ⟨q, k, none⟩ (.int .u8 (z : Int))) w2.heap.size 1 Aa n (bs.map bv) := ((Reads.of_own HOA.out).below hb5).keep fun p hp => World.cell?_setCell_far _ _ _ _ (by show q ≠ p.block; omega)
    obtain ⟨w6, hw6⟩ : ∃ W, w5.setCell ⟨q, k, none⟩ (.int .u8 (z : Int)) = W := ⟨_, rfl⟩
    have hs6 : w2.heap.size ≤ w6.heap.size := by rw [← hw6]; have := hb5.size; simpa [World.setCell] using this
    rw [hw6] at ho6 hb6 hr6
    have hget := getNo (Reads.of_own ho6) hc51 hc52 (by omega) hl6 hdm
    have HGET := Lib.hid hget; have HB6 := Lib.hid hb6; have HR6 := Lib.hid (hr6.more hs6); have HW6 := Lib.hid hw6
    obtain ⟨er, her⟩ : ∃ er : Int, (if k < 4 then (10 : Int) else 13) = er := ⟨_, rfl⟩
    rw [her] at HGET
    clear hget ho6 hb6 hr6 hw6 hdm hl6 hzne hz0 hy hblk hcur hk0 ho5 hb5 hbt hkb hq
    unfold bv at hcell
    go_wp2_with fail
    rw [HW6.out]
    clear hcell hfz hzb HW6
    refine HGET.out.mono ?_
    rintro e w7 ⟨B1, b1, B2, b2, B3, b3, B4, b4, B5, b5, B6, b6, B7, b7, B8, b8, rfl, hpc, hb7⟩
    have hbw := (Below.refl w7.heap.size w7).alloc (Nat.le_refl _) (.cells #[.slice B1 0 b1, .slice B2 0 b2, .slice B3 0 b3, .slice B4 0 b4, .slice B5 0 b5, .slice B6 0 b6, .slice B7 0 b7, .slice B8 0 b8] 33)
    have hx8 := Blk.new w7 33 #[.slice B1 0 b1, .slice B2 0 b2, .slice B3 0 b3, .slice B4 0 b4, .slice B5 0 b5, .slice B6 0 b6, .slice B7 0 b7, .slice B8 0 b8]
    obtain ⟨w8, hw8⟩ : ∃ W, w7.alloc (.cells #[.slice B1 0 b1, .slice B2 0 b2, .slice B3 0 b3, .slice B4 0 b4, .slice B5 0 b5, .slice B6 0 b6, .slice B7 0 b7, .slice B8 0 b8] 33) = W := ⟨_, rfl⟩
    rw [hw8] at hbw hx8
    have hb78 := hb7.trans (hbw.mono hb7.size)
    have hb8 := HB6.out.trans (hb78.mono HB6.out.size)
    have hr8 := (HR6.out.below hb78).more hb78.size
    have hpc8 := (ProjC.keep (fun q hq => hbw.cell (p := q) hq) hpc).more hbw.size
    have hsame := samePj_any w8 w8.heap.size noP _ _ hpc8 (ProjF.toC (B := w8.heap.size) (S := fun _ => False) (fun b hb => absurd hb id) (noP_cells w8 _)) (Nat.le_refl _) (fun x hx => by cases hx)
    have HSAME := Lib.hid hsame; have HB8 := Lib.hid hb8; have HR8 := Lib.hid hr8; have HW8 := Lib.hid hw8; have HER := Lib.hid her
    have d0 := hx8.cell 0; have d1 := hx8.cell 1; have d2 := hx8.cell 2; have d3 := hx8.cell 3; have d4 := hx8.cell 4; have d5 := hx8.cell 5; have d6 := hx8.cell 6; have d7 := hx8.cell 7
    simp only [List.getElem?_toArray, List.getElem?_cons_zero, List.getElem?_cons_succ] at d0 d1 d2 d3 d4 d5 d6 d7
    clear hpc hb7 hbw hx8 hw8 hb78 hb8 hr8 hpc8 hsame HR6 her
    go_upto_region 12 with (rw [HW8.out])
    try rw [HW8.out]
    go_upto_if 56 with fail
    go_cut [13] (fun v wx => v = .int .i64 er ∧ w8 = wx)
    case first =>
      have her := HER.out
      by_cases hk4 : k < 4
      · have hk4I : (k : Int) < 4 := by omega
        rw [if_pos hk4] at her
        subst her
        clear hk4
        go_wp2
        go_meet
        exact ⟨rfl, rfl⟩
      · have hk4I : ¬ (k : Int) < 4 := by omega
        rw [if_neg hk4] at her
        subst her
        clear hk4
        go_wp2
        go_meet
        exact ⟨rfl, rfl⟩
    case rest =>
    obtain ⟨rfl, rfl⟩ := hcut
    clear HER HW8
    go_wp2_with fail
    refine HSAME.out.mono ?_
    rintro e w9 ⟨rfl, hb9⟩
    have HB9 := Lib.hid (HB8.out.trans (hb9.mono HB8.out.size)); have HR9 := Lib.hid ((HR8.out.below hb9).more hb9.size)
    clear hb9 d0 d1 d2 d3 d4 d5 d6 d7 HSAME HB8 HR8
    obtain ⟨i0, hi, hz0, hz1, hz2⟩ := info_parts (show (Tryz.prog.info? 5).map (fun i => (i.zero, i.size, i.bytes)) = some (some (.int .u8 0), 1, 1) by kernel_rfl)
    obtain ⟨A1x, u1, u2⟩ := cut_hi Aa n ca (n - 4) (by omega) hca1
    obtain ⟨A2x, t1, t2⟩ := cut_hi Aa n ca (n - 5) (by omega) hca1
    have e4 : ((n - 4 : Nat) : Int) = (n : Int) - 4 := by omega
    have e5 : ((n - 5 : Nat) : Int) = (n : Int) - 5 := by omega
    rw [e4] at u1
    rw [e5] at t1
    have hbt4 : bs.take (n - 4) = bd := by
      have h1 := HNL.out; have h2 := HBO.out; have h3 := HM.out
      rw [h2, show n - 4 = bd.length by omega, List.take_left]
    have hbt5 : bs.take (n - 5) = bd.take (m - 1) := by
      have h1 := HNL.out; have h2 := HBO.out; have h3 := HM.out
      rw [h2, show n - 5 = m - 1 by omega, List.take_append_of_le_length (by omega)]
    have hm4 : n - 4 = m := by have := HNL.out; omega
    have hm5 : n - 5 = m - 1 := by have := HNL.out; omega
    rw [hm4] at u1 u2 hbt4
    rw [hm5] at t1 t2 hbt5
    have hr1 := fun (W : World) (hW : Below w9.heap.size w9 W) => u2 W w9.heap.size _ (HR9.out.below hW)
    have hr2 := fun (W : World) (hW : Below w9.heap.size w9 W) => t2 W w9.heap.size _ (HR9.out.below hW)
    simp only [← List.map_take, hbt4] at hr1
    simp only [← List.map_take, hbt5] at hr2
    have hm1 : m ≤ 900000000 := hbn
    have hm0 : 4 ≤ m := hb4
    have HR1 := Lib.hid hr1; have HR2 := Lib.hid hr2
    have hw4 : IntKind.i64.wrap ((n : Int) - 4) = (n : Int) - 4 := IntWalk.i64_in _ ⟨by omega, by omega⟩
    have hw5 : IntKind.i64.wrap ((n : Int) - 5) = (n : Int) - 5 := IntWalk.i64_in _ ⟨by omega, by omega⟩
    clear u2 t2 hbt4 hbt5 hm4 hm5 hr1 hr2 e4 e5
    go_wp2
    refine wp_region_held_drew (S := (fun _ => True)) (by kernel_rfl) ?_ (fun hHeld => ?_)
    · (try dsimp only)
      all_goals trivial
    refine wpAnyH_take (i := 0) (v := ?_) rfl (by kernel_rfl) (by kernel_rfl) (by kernel_rfl) (fun _ _ _ h => h) (Or.inl ⟨by rfl, ?_⟩) (by assumption) ?_
    rotate_left
    · intro w hSw
      (try dsimp only at hSw)
      go_simp <;> with_reducible rfl
    try simp only [Act.put, List.getElem_toArray, List.getElem_cons_succ, List.getElem_cons_zero, List.setIfInBounds_toArray, List.set_cons_zero, List.set_cons_succ]
    refine wpAnyH_take (i := 1) (v := ?_) rfl (by kernel_rfl) (by kernel_rfl) (by kernel_rfl) (fun _ _ _ h => h) (Or.inl ⟨by rfl, ?_⟩) (by assumption) ?_
    rotate_left
    · intro w hSw
      (try dsimp only at hSw)
      go_simp <;> with_reducible rfl
    try simp only [Act.put, List.getElem_toArray, List.getElem_cons_succ, List.getElem_cons_zero, List.setIfInBounds_toArray, List.set_cons_zero, List.set_cons_succ]
    refine wpAnyH_take (i := 2) (v := ?_) rfl (by kernel_rfl) (by kernel_rfl) (by kernel_rfl) (fun _ _ _ h => h) (Or.inl ⟨by rfl, ?_⟩) (by assumption) ?_
    rotate_left
    · intro w hSw
      (try dsimp only at hSw)
      go_simp <;> with_reducible rfl
    try simp only [Act.put, List.getElem_toArray, List.getElem_cons_succ, List.getElem_cons_zero, List.setIfInBounds_toArray, List.set_cons_zero, List.set_cons_succ]
    refine wpAnyH_take (i := 3) (v := ?_) rfl (by kernel_rfl) (by kernel_rfl) (by kernel_rfl) (fun _ _ _ h => h) (Or.inl ⟨by rfl, ?_⟩) (by assumption) ?_
    rotate_left
    · intro w hSw
      (try dsimp only at hSw)
      go_simp <;> with_reducible rfl
    try simp only [Act.put, List.getElem_toArray, List.getElem_cons_succ, List.getElem_cons_zero, List.setIfInBounds_toArray, List.set_cons_zero, List.set_cons_succ]
    refine wpAnyH_take (i := 4) (v := ?_) rfl (by kernel_rfl) (by kernel_rfl) (by kernel_rfl) (fun _ _ _ h => h) (Or.inl ⟨by rfl, ?_⟩) (by assumption) ?_
    rotate_left
    · intro w hSw
      (try dsimp only at hSw)
      go_simp <;> with_reducible rfl
    try simp only [Act.put, List.getElem_toArray, List.getElem_cons_succ, List.getElem_cons_zero, List.setIfInBounds_toArray, List.set_cons_zero, List.set_cons_succ]
    refine wpAnyH_take (i := 6) (v := ?_) rfl (by kernel_rfl) (by kernel_rfl) (by kernel_rfl) (fun _ _ _ h => h) (Or.inl ⟨by rfl, ?_⟩) (by assumption) ?_
    rotate_left
    · intro w hSw
      (try dsimp only at hSw)
      go_simp <;> with_reducible rfl
    try simp only [Act.put, List.getElem_toArray, List.getElem_cons_succ, List.getElem_cons_zero, List.setIfInBounds_toArray, List.set_cons_zero, List.set_cons_succ]
    refine wpAnyH_take (i := 9) (v := ?_) rfl (by kernel_rfl) (by kernel_rfl) (by kernel_rfl) (fun _ _ _ h => h) (Or.inl ⟨by rfl, ?_⟩) (by assumption) ?_
    rotate_left
    · intro w hSw
      (try dsimp only at hSw)
      go_simp <;> with_reducible rfl
    try simp only [Act.put, List.getElem_toArray, List.getElem_cons_succ, List.getElem_cons_zero, List.setIfInBounds_toArray, List.set_cons_zero, List.set_cons_succ]
    refine wpAnyH_take (i := 10) (v := ?_) rfl (by kernel_rfl) (by kernel_rfl) (by kernel_rfl) (fun _ _ _ h => h) (Or.inl ⟨by rfl, ?_⟩) (by assumption) ?_
    rotate_left
    · intro w hSw
      (try dsimp only at hSw)
      go_simp <;> with_reducible rfl
    try simp only [Act.put, List.getElem_toArray, List.getElem_cons_succ, List.getElem_cons_zero, List.setIfInBounds_toArray, List.set_cons_zero, List.set_cons_succ]
    refine wpAnyH_take (i := 11) (v := ?_) rfl (by kernel_rfl) (by kernel_rfl) (by kernel_rfl) (fun _ _ _ h => h) (Or.inl ⟨by rfl, ?_⟩) (by assumption) ?_
    rotate_left
    · intro w hSw
      (try dsimp only at hSw)
      go_simp <;> with_reducible rfl
    try simp only [Act.put, List.getElem_toArray, List.getElem_cons_succ, List.getElem_cons_zero, List.setIfInBounds_toArray, List.set_cons_zero, List.set_cons_succ]
    refine wpAnyH_take (i := 12) (v := ?_) rfl (by kernel_rfl) (by kernel_rfl) (by kernel_rfl) (fun _ _ _ h => h) (Or.inl ⟨by rfl, ?_⟩) (by assumption) ?_
    rotate_left
    · intro w hSw
      (try dsimp only at hSw)
      go_simp <;> with_reducible rfl
    try simp only [Act.put, List.getElem_toArray, List.getElem_cons_succ, List.getElem_cons_zero, List.setIfInBounds_toArray, List.set_cons_zero, List.set_cons_succ]
    refine wpAnyH_take (i := 13) (v := ?_) rfl (by kernel_rfl) (by kernel_rfl) (by kernel_rfl) (fun _ _ _ h => h) (Or.inl ⟨by rfl, ?_⟩) (by assumption) ?_
    rotate_left
    · intro w hSw
      (try dsimp only at hSw)
      go_simp <;> with_reducible rfl
    try simp only [Act.put, List.getElem_toArray, List.getElem_cons_succ, List.getElem_cons_zero, List.setIfInBounds_toArray, List.set_cons_zero, List.set_cons_succ]
    refine wpAnyH_take (i := 16) (v := ?_) rfl (by kernel_rfl) (by kernel_rfl) (by kernel_rfl) (fun _ _ _ h => h) (Or.inl ⟨by rfl, ?_⟩) (by assumption) ?_
    rotate_left
    · intro w hSw
      (try dsimp only at hSw)
      go_simp <;> with_reducible rfl
    try simp only [Act.put, List.getElem_toArray, List.getElem_cons_succ, List.getElem_cons_zero, List.setIfInBounds_toArray, List.set_cons_zero, List.set_cons_succ]
    refine wpAnyH_ready (rs := [5, 7]) (by kernel_rfl) (by simp) ?_
    refine AllReadyH.cons rfl (fun K hK => ?_) (AllReadyH.cons rfl (fun K hK => ?_) AllReadyH.nil)
    focus
      go_simp
      (try go_wp2_with fail)
      refine (cloneBig_any A1x m ca (bd.map bv) w9.drew w9.heap.size (HR1.out _ ((Below.refl w9.heap.size w9).drew)) (bv_one bd) (Nat.le_refl _) (by omega)).mono ?_
      rintro e w10 ⟨v10, rfl, ho10, hb10⟩
      obtain ⟨Ac, cc, rfl, -, -⟩ := ownsRow_form ho10
      (try go_simp)
      refine hK.out _ _ ?_ (fun hHeld' => ?_)
      · (try dsimp only)
        all_goals trivial
      clear hK K hHeld
      have hHeld := hHeld'
      clear hHeld'
      refine wpAnyH_ready (rs := [7]) (by kernel_rfl) (by simp) ?_
      refine AllReadyH.cons rfl (fun K hK => ?_) AllReadyH.nil
      go_simp
      refine hK.out _ _ ?_ (fun hHeld' => ?_)
      · (try dsimp only)
        all_goals trivial
      clear hK K hHeld
      have hHeld := hHeld'
      clear hHeld'
      have hO : (w10.alloc (.cells #[.int .u8 by_.toNat] 5)).ownsRow w9.heap.size 5 1 (.slice Ac m cc) m (bd.map bv) := (show w10.ownsRow w9.heap.size 5 1 (.slice Ac m cc) m (bd.map bv) from ho10).alloc _
      have hY := reads_newk w10 5 [.int .u8 by_.toNat] 1 1 rfl
      have hS : w10.heap.size + 1 ≤ (w10.alloc (.cells #[.int .u8 by_.toNat] 5)).heap.size := by simp
      have hB := ((show Below w9.heap.size w9 w10 from (Below.refl w9.heap.size w9).drew.trans hb10)).alloc (show w9.heap.size ≤ w10.heap.size from hb10.size) (.cells #[.int .u8 by_.toNat] 5)
      obtain ⟨y, hy⟩ : ∃ y, w10.heap.size = y := ⟨_, rfl⟩
      obtain ⟨w12, hw12⟩ : ∃ W, w10.alloc (.cells #[.int .u8 by_.toNat] 5) = W := ⟨_, rfl⟩
      skip
      rw [show (.cells ([.int .u8 by_.toNat] : List Value).toArray 5 : Obj) = .cells #[.int .u8 by_.toNat] 5 from rfl] at hY
      rw [hw12] at hO hY hS hB ⊢
      rw [hy] at hY hS ⊢
      clear ho10 hb10 hw12 hy
    rotate_left
    focus
      go_simp
      refine hK.out _ _ ?_ (fun hHeld' => ?_)
      · (try dsimp only)
        all_goals trivial
      clear hK K hHeld
      have hHeld := hHeld'
      clear hHeld'
      refine wpAnyH_ready (rs := [5]) (by kernel_rfl) (by simp) ?_
      refine AllReadyH.cons rfl (fun K hK => ?_) AllReadyH.nil
      go_simp
      (try go_wp2_with fail)
      refine (cloneBig_any A1x m ca (bd.map bv) (w9.drew.alloc (.cells #[.int .u8 by_.toNat] 5)) w9.heap.size (HR1.out _ ((Below.refl w9.heap.size w9).drew.alloc (Nat.le_refl _) _)) (bv_one bd) (by simp) (by omega)).mono ?_
      rintro e w10 ⟨v10, rfl, ho10, hb10⟩
      obtain ⟨Ac, cc, rfl, -, -⟩ := ownsRow_form ho10
      (try go_simp)
      refine hK.out _ _ ?_ (fun hHeld' => ?_)
      · (try dsimp only)
        all_goals trivial
      clear hK K hHeld
      have hHeld := hHeld'
      clear hHeld'
      have hO : w10.ownsRow w9.heap.size 5 1 (.slice Ac m cc) m (bd.map bv) := own_mono ho10 (by simp)
      have hs0 : (w9.drew.alloc (.cells #[.int .u8 by_.toNat] 5)).heap.size = w9.heap.size + 1 := by simp
      have hS : w9.heap.size + 1 ≤ w10.heap.size := by have := hb10.size; rw [hs0] at this; exact this
      have hY : Reads w10 (w9.heap.size + 1) 1 (some ⟨w9.heap.size, 0, none⟩) 1 [.int .u8 by_.toNat] := Reads.below (reads_newk w9.drew 5 [.int .u8 by_.toNat] 1 1 rfl) (hb10.mono (by rw [hs0]; exact Nat.le_refl _))
      have hB : Below w9.heap.size w9 w10 := ((Below.refl w9.heap.size w9).drew.alloc (Nat.le_refl _) _).trans (hb10.mono (by rw [hs0]; omega))
      obtain ⟨w12, hw12⟩ : ∃ W, w10 = W := ⟨_, rfl⟩
      obtain ⟨y, hy⟩ : ∃ y, w9.heap.size = y := ⟨_, rfl⟩
      have hO' := hO; have hB' := hB
      rw [hw12] at hO hY hS hB ⊢
      rw [hy] at hY hS ⊢
      clear ho10 hb10 hs0 hO' hB' hw12 hy
    all_goals
      have HO := Lib.hid hO; have HY := Lib.hid hY; have HB := Lib.hid hB
      clear hO hY hB
      refine wpAnyH_ready (rs := [8]) (by kernel_rfl) (by simp) ?_
      refine AllReadyH.cons rfl (fun K hK => ?_) AllReadyH.nil
      refine step_append_any _ (by rfl) (.tmp 71) (.tmp 73) 36 (by rfl) w9.heap.size 5 i0 (.int .u8 0) 1 1 Tryz.underlying36 hi hz0 hz1 hz2 (by rfl) (by decide) (.slice Ac m cc) m (bd.map bv) (by simp [Act.eval, Act.put]) HO.out (y + 1) (some ⟨y, 0, none⟩) 1 1 [.int .u8 by_.toNat] (by simp [Act.eval, Act.put]) HY.out (by intro u hu; rw [List.mem_singleton.1 hu]; rfl) (by unfold maxLen; omega) (by omega) HB.out.size ?_
      intro v' w13 hown' hgrow hx'
      obtain ⟨Ad, cd, rfl, hcd1, hcd2⟩ := ownsRow_form hown'
      have hb13 : Below w9.heap.size w9 w13 := HB.out.grown hgrow HB.out.size (fun g hg => (HO.out.lt g hg).1)
      have HB13 := Lib.hid hb13; have HO13 := Lib.hid hown'
      clear hown' hgrow hx' hb13 HO HY HB hS
      refine hK.out _ _ ?_ (fun hHeld' => ?_)
      · (try dsimp only)
        all_goals trivial
      clear hK K hHeld
      have hHeld := hHeld'
      clear hHeld'
      refine wpAnyH_ready (rs := [14]) (by kernel_rfl) (by simp) ?_
      refine AllReadyH.cons rfl (fun K hK => ?_) AllReadyH.nil
      go_simp
      refine hK.out _ _ ?_ (fun hHeld' => ?_)
      · (try dsimp only)
        all_goals trivial
      clear hK K hHeld
      have hHeld := hHeld'
      clear hHeld'
      refine wpAnyH_take (i := 15) (v := ?_) rfl (by kernel_rfl) (by kernel_rfl) (by kernel_rfl) (fun _ _ _ h => h) (Or.inl ⟨by rfl, ?_⟩) (by assumption) ?_
      rotate_left
      · intro w hSw
        (try dsimp only at hSw)
        go_simp <;> with_reducible rfl
      try simp only [Act.put, List.getElem_toArray, List.getElem_cons_succ, List.getElem_cons_zero, List.setIfInBounds_toArray, List.set_cons_zero, List.set_cons_succ]
      refine wpAnyH_done (by kernel_rfl) ?_ _
      have hcl := Blk.new w13 36 #[.slice Ad (m + 1) cd, .slice A2x (m - 1) ca]
      have hbw := (Below.refl w13.heap.size w13).alloc (Nat.le_refl _) (.cells #[.slice Ad (m + 1) cd, .slice A2x (m - 1) ca] 36)
      obtain ⟨w14, hw14⟩ : ∃ W, w13.alloc (.cells #[.slice Ad (m + 1) cd, .slice A2x (m - 1) ca] 36) = W := ⟨_, rfl⟩
      rw [hw14] at hcl hbw ⊢
      have hb14 : Below w9.heap.size w9 w14 := HB13.out.trans (hbw.mono HB13.out.size)
      have hlt1 : ∀ x ∈ bd ++ [by_.toNat], x < 256 := fun x hx => by
        rcases List.mem_append.1 hx with h | h
        · exact HBL.out x h
        · rw [List.mem_singleton.1 h]; exact by_.toNat_lt
      have hlt2 : ∀ x ∈ bd.take (m - 1), x < 256 := fun x hx => HBL.out x (List.mem_of_mem_take hx)
      have hg1 := HOM.out by_.toNat
      have hg2 := HOL.out
      rw [HM.out] at hg2
      have hall : ∀ W, Below w14.heap.size w14 W → (W.cell? ⟨w13.heap.size, 0, none⟩ = some (.slice Ad (m + 1) cd) ∧ W.cell? ⟨w13.heap.size, 1, none⟩ = some (.slice A2x (m - 1) ca)) ∧ Reads W W.heap.size 1 Ad (m + 1) ((bd ++ [by_.toNat]).map bv) ∧ Reads W W.heap.size 1 A2x (m - 1) ((bd.take (m - 1)).map bv) := fun W hW => by
        have h1 := (hcl.below hW hcl.lt)
        have h2 := own_below' (own_below' HO13.out hbw) hW
        have e : (bd ++ [by_.toNat]).map bv = bd.map bv ++ [Value.int .u8 by_.toNat] := by rw [List.map_append]; rfl
        rw [e]
        exact ⟨⟨by simpa using h1.cell 0, by simpa using h1.cell 1⟩, Reads.of_own h2, (HR2.out W (hb14.trans (hW.mono hb14.size))).more (Nat.le_trans hb14.size hW.size)⟩
      have HALL := Lib.hid hall; have HB14 := Lib.hid (HB9.out.trans (hb14.mono HB9.out.size)); have HL1 := Lib.hid hlt1; have HL2 := Lib.hid hlt2; have HG1 := Lib.hid hg1; have HG2 := Lib.hid hg2
      clear hcl hbw hw14 hb14 hlt1 hlt2 hg1 hg2 hall hHeld HB13 HO13
      go_wp2
      go_loopw [82] (fun i wr => ∃ j : Nat, j ≤ 2 ∧ i = .int .i64 j ∧ Below w14.heap.size w14 wr) (fun i _ => 2 - (RowKit.intOf i).toNat)
      case atStart => exact ⟨0, by omega, rfl, Below.refl _ _⟩
      case round =>
        obtain ⟨j, hj, rfl, hbw⟩ := hrel
        have HBW := Lib.hid hbw
        obtain ⟨⟨e0, e1⟩, r1, r2⟩ := HALL.out wr hbw
        have HD1 := Lib.hid r1; have HD2 := Lib.hid r2
        clear hbw r1 r2
        by_cases hj2 : j < 2
        · have hgen : ∃ A nj cj bj, wr.cell? ⟨w13.heap.size, j, none⟩ = some (.slice A nj cj) ∧ Reads wr wr.heap.size 1 A nj (bj.map bv) ∧ (∀ x ∈ bj, x < 256) ∧ getP (bj ++ fourB (sumB bj)) = (noP, 10) ∧ nj ≤ 900000001 := by
            have hj01 : j = 0 ∨ j = 1 := by omega
            rcases hj01 with rfl | rfl
            · exact ⟨_, _, _, _, e0, HD1.out, HL1.out, HG1.out, by omega⟩
            · exact ⟨_, _, _, _, e1, HD2.out, HL2.out, HG2.out, by omega⟩
          obtain ⟨Aj, nj, cj, bj, ej, hd, hl, hg, hnj⟩ := hgen
          have hsum := sum_any Aj nj cj (bj.map UInt8.ofNat) wr (readB_of hd hl) (by unfold maxLen; omega)
          rw [u8_nat hl] at hsum
          have hslt := sumB_lt hl
          obtain ⟨s, hs⟩ : ∃ s, sumB bj = s := ⟨_, rfl⟩
          rw [hs] at hsum hslt hg
          have hcl := cloneBig_any Aj nj cj (bj.map bv) wr wr.heap.size hd (bv_one bj) (Nat.le_refl _) (by omega)
          have HSUM := Lib.hid hsum; have HCL := Lib.hid hcl; have HGJ := Lib.hid hg; have HLJ := Lib.hid hl; have HSLT := Lib.hid hslt
          have hj01 : j = 0 ∨ j = 1 := by omega
          clear hsum hslt hg hd hl hcl hs e0 e1
          rcases hj01 with rfl | rfl
          all_goals
            go_wp2_with fail
            refine HSUM.out.mono ?_
            rintro e w15 ⟨rfl, rfl⟩
            clear ej
            go_wp2_with fail
            refine HCL.out.mono ?_
            rintro e w16 ⟨v16, rfl, ho16, hb16⟩
            obtain ⟨Ae, ce, rfl, -, -⟩ := ownsRow_form ho16
            have hrn := reads_lit w16 5 1 4 [.int .u8 ((s : Int) % 256), .int .u8 ((s : Int) / 256 % 256), .int .u8 ((s : Int) / 65536 % 256), .int .u8 ((s : Int) / 16777216 % 256)] rfl
            have HRN := Lib.hid hrn; have HO16 := Lib.hid ho16; have HB16 := Lib.hid (HBW.out.trans (hb16.mono HBW.out.size))
            have hsz16 := hb16.size
            clear hrn ho16 hb16
            go_wp2_with (at_builtin; refine wpList_append_any _ rfl _ _ _ rfl wr.heap.size 5 i0 (.int .u8 0) 1 1 Tryz.underlying36 hi hz0 hz1 hz2 rfl (by decide) _ _ _ rfl (HO16.out.alloc _) (w16.heap.size + 1) _ _ _ [.int .u8 ((s : Int) % 256), .int .u8 ((s : Int) / 256 % 256), .int .u8 ((s : Int) / 65536 % 256), .int .u8 ((s : Int) / 16777216 % 256)] rfl HRN.out (by simp [Value.oneCell']) (by unfold maxLen; omega) (by omega) (by simp; omega) ?_; intro v17 w17 hown17 hgrow17 hx17; obtain ⟨Af, cf, rfl, hcf1, hcf2⟩ := ownsRow_form hown17; have HB17 := Lib.hid ((HB16.out.alloc HB16.out.size _).grown hgrow17 (by have := HB16.out.size; simp; omega) (fun g hg => by have := (HO16.out.lt g hg).1; have := HBW.out.size; omega)); have HO17 := Lib.hid hown17; clear hown17 hgrow17 hx17)
            have ho17 := HO17.out
            rw [four_cells, ← List.map_append] at ho17
            have hl17 : ∀ x ∈ bj ++ fourB s, x < 256 := fun x hx => by
              rcases List.mem_append.1 hx with h | h
              · exact HLJ.out x h
              · unfold fourB at h; simp only [List.mem_cons, List.not_mem_nil, or_false] at h; rcases h with rfl | rfl | rfl | rfl <;> omega
            have hget := getNo (Reads.of_own ho17) hcf1 hcf2 (by omega) hl17 HGJ.out
            have HGET := Lib.hid hget
            clear ho17 hl17 hget HO17 HRN HO16
            refine HGET.out.mono ?_
            rintro e w18 ⟨B1, b1, B2, b2, B3, b3, B4, b4, B5, b5, B6, b6, B7, b7, B8, b8, rfl, -, hb18⟩
            have HB18 := Lib.hid ((HB17.out.trans (hb18.mono HB17.out.size)).alloc (by have := HB17.out.size; have := hb18.size; omega) (.cells #[.slice B1 0 b1, .slice B2 0 b2, .slice B3 0 b3, .slice B4 0 b4, .slice B5 0 b5, .slice B6 0 b6, .slice B7 0 b7, .slice B8 0 b8] 33))
            clear hb18 HGET
            go_wp2
            go_roundw
            case rel => first | exact ⟨1, by omega, by go_num, HB18.out⟩ | exact ⟨2, by omega, by go_num, HB18.out⟩
            case measure => simp [RowKit.intOf]
        · obtain rfl : j = 2 := by omega
          clear e0 e1
          go_wp2_with fail
          refine (HWK.out wr).mono ?_
          rintro e w19 ⟨rfl, hb19⟩
          have HB19 := Lib.hid ((HB14.out.trans (HBW.out.mono HB14.out.size)).trans (hb19.mono (HB14.out.trans (HBW.out.mono HB14.out.size)).size))
          clear hb19
          go_wp2
          go_ret
          exact ⟨rfl, HB19.out⟩
end Go.Proofs.YtmepaeahchiglaaGreatDoor

