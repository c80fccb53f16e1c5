/-
  PackAgain: the walk. Conditions: bytes that can be read. (Printed by packagain.py.)
-/
import Derived.Test.YtmepaeahchiglaaGreatDoorZbPjGs3
import Derived.Test.YtmepaeahchiglaaGreatDoorZbbh
import Derived.Test.YtmepaeahchiglaaGreatDoorZbPkCl
import Derived.Test.YtmepaeahchiglaaGreatDoorZbaa
import Derived.Test.YtmepaeahchiglaaGreatDoorZbPkLwG
import Derived.Deep.DeepCutAuto
namespace Go.Proofs.YtmepaeahchiglaaGreatDoor
open Go.RowKit Go.Lib

theorem u8s_bv (xs : List UInt8) : (xs.map fun b => Value.int .u8 b.toNat) = (xs.map UInt8.toNat).map bv := by rw [List.map_map]; rfl
theorem getL_small {bs : List Nat} (hb : ∀ b ∈ bs, b < 256) (hs : bs.length ≤ 1073741824) : (getL bs).1.name.size ≤ maxLen := by
  unfold maxLen getL
  cases h : lawR bs with
  | none => show (0 : Nat) ≤ _; omega
  | some q =>
    obtain ⟨l, r⟩ := q
    show (if lawOk l then (l, bs.length - r.length, (0 : Int)) else (noL, 0, 17)).1.name.size ≤ _
    split
    · have := (sure_lawnm _ _ _ hb h).1
      show l.name.size ≤ _
      omega
    · show (0 : Nat) ≤ _; omega
/-- A law's load behind a guard that holds. -/
theorem law_loadA {ops : Array Oper} {rest : List Oper} {o : Oper} {a : Act} {w : World} {Q : Exit → Act → World → Prop} (hgd : Region.wanted o (yielded ops a.tmps) = true) (x : Operand) (ho : o.op = .load 62 x)
    (g : Nat) (hx : a.eval x = .pointer (some ⟨g, 0, none⟩)) (cs : List Value) (hlen : cs.length = 18) (hg : w.heap[g]? = some (.cells cs.toArray 62 (0, 0)))
    (h : wpList Tryz.prog ops Q rest (a.put o.dst (.agg cs.toArray)) w) : wpList Tryz.prog ops Q (o :: rest) a w := by
  obtain ⟨fs, hfs⟩ := law_under
  exact wpList_step fun K hK => by rw [if_pos hgd]; exact wp_load_row _ x ho g hx _ _ _ _ hg hfs rfl (by rw [law_info, List.size_toArray, hlen]) (hK _ _ h)
/-- Bytes of one's own, changed in one place. -/
theorem own_byte {w : World} {base q n c k : Nat} {bs : List Nat} (h : w.ownsRow base 5 1 (.slice (some ⟨q, 0, none⟩) n c) n (bs.map bv)) (hb : ∀ x ∈ bs, x < 256) {x : Int} (h0 : 0 ≤ x) (h1 : x < 256) :
    ∃ bs' : List Nat, (w.setCell ⟨q, k, none⟩ (.int .u8 x)).ownsRow base 5 1 (.slice (some ⟨q, 0, none⟩) n c) n (bs'.map bv) ∧ ∀ y ∈ bs', y < 256 := by
  refine ⟨bs.set k x.toNat, ?_, fun y hy => ?_⟩
  · have := own_set (k := k) h (.int .u8 x)
    rw [List.map_set, show bv x.toNat = Value.int .u8 x by show Value.int .u8 ((x.toNat : Nat) : Int) = _; rw [Int.toNat_of_nonneg h0]]
    exact this
  · rcases List.mem_or_eq_of_mem_set hy with h2 | h2
    · exact hb y h2
    · omega
/-- A row of one's own of at least one element. -/
theorem own_some {w : World} {base n c size : Nat} {e : TypeId} {A : Option Addr} {xs : List Value} (h : w.ownsRow base e size (.slice A n c) n xs) (hn : 0 < n) : ∃ q cur, A = some ⟨q, 0, none⟩ ∧ base ≤ q ∧ Blk w q e cur ∧ cur.toList.take (n * size) = xs := by
  rcases h.2 with ⟨h', h''⟩ | ⟨q, cap, cur, h', hb, hg', h3, h4, hs, ht⟩
  · omega
  · simp only [Value.slice.injEq] at h'
    exact ⟨q, cur, h'.1, hb, hg', ht⟩
set_option linter.unusedSimpArgs false in
set_option linter.unusedVariables false in
set_option maxRecDepth 20000 in
set_option maxHeartbeats 8000000 in
theorem packAgain_law (w : World) (A : Option Addr) (n c : Nat) (xs : List UInt8) (right : Bool) (hx : ReadB w w.heap.size A n xs) (hn : n ≤ c) (hc : c ≤ maxLen) :
    Calls Tryz.prog 7 #[.slice A n c, .bool right] w fun e w' => e = .returned (.bool true) ∧ Below w.heap.size w w' := by
  have HWK := Lib.hid works_any
  by_cases hg : (5000 : Int) < n
  · clear hx
    unfold maxLen at hc
    go_enter Tryz.func7, Tryz.ntmps7
    go_wp2_with fail
    refine (HWK.out _).mono ?_
    rintro e w1 ⟨rfl, hb⟩
    have HB := Lib.hid hb
    clear hb
    go_wp2
    go_ret
    exact ⟨rfl, HB.out⟩
  have hm256 : ∀ b ∈ xs.map UInt8.toNat, b < 256 := fun _ hc => by obtain ⟨x, _, rfl⟩ := List.mem_map.1 hc; exact x.toNat_lt
  replace hx : Reads w w.heap.size 1 A n ((xs.map UInt8.toNat).map bv) := by rw [← u8s_bv]; exact hx
  generalize xs.map UInt8.toNat = bs at *
  have HX := Lib.hid hx; have HLT := Lib.hid hm256
  unfold maxLen at hc
  clear hx hm256
  go_enter Tryz.func7, Tryz.ntmps7
  go_wp2_with fail
  refine (cloneB_any A n c _ w w.heap.size HX.out (bv_one bs) (Nat.le_refl _) (by omega)).mono ?_
  rintro e w1 ⟨v1, rfl, ho1, hb1⟩
  obtain ⟨A1, c1, rfl, hn1, hc1⟩ := ownsRow_form ho1
  have HO1 := Lib.hid ho1; have HB1 := Lib.hid hb1
  have hc1m := hc1
  unfold maxLen at hc1
  clear ho1 hb1
  go_upto_region 5 with fail
  go_cut [33] (fun v wx => v = .bool (right && decide (4 ≤ n)) ∧ w1 = wx)
  case first =>
    cases right with
    | false =>
      go_wp2
      go_meet
      exact ⟨rfl, rfl⟩
    | true =>
      by_cases h4 : 4 ≤ n
      · have h4I : (0 : Int) ≤ (n : Int) - 4 := by omega
        go_wp2
        go_meet
        exact ⟨by first | (simp; done) | (simp; omega), rfl⟩
      · have h4I : ¬ (0 : Int) ≤ (n : Int) - 4 := by omega
        go_wp2
        go_meet
        exact ⟨by first | (simp; done) | (simp; omega), rfl⟩
  case rest =>
  obtain ⟨rfl, rfl⟩ := hcut
  go_upto_if 33 with fail
  go_cut [] (fun wx => ∃ bs' : List Nat, wx.ownsRow w.heap.size 5 1 (.slice A1 n c1) n (bs'.map bv) ∧ (∀ b ∈ bs', b < 256) ∧ Below w.heap.size w wx)
  case first =>
    cases right with
    | false =>
      rw [Bool.false_and]
      go_wp2
      go_meet
      exact ⟨bs, HO1.out, HLT.out, HB1.out⟩
    | true =>
      by_cases h4 : 4 ≤ n
      · have h4I : (0 : Int) ≤ (n : Int) - 4 := by omega
        rw [Bool.true_and, decide_eq_true h4]
        obtain ⟨A3, u1, u2⟩ := cut_hi A1 n c1 (n - 4) (by omega) hn1
        have e4 : ((n - 4 : Nat) : Int) = (n : Int) - 4 := by omega
        rw [e4] at u1
        have hr3 := u2 w1 w1.heap.size _ (Reads.of_own HO1.out)
        rw [← List.map_take] at hr3
        have hbt : ∀ x ∈ bs.take (n - 4), x < 256 := fun x hx => HLT.out x (List.mem_of_mem_take hx)
        have hsum := sum_any A3 (n - 4) c1 ((bs.take (n - 4)).map UInt8.ofNat) w1 (readB_of hr3 hbt) (by unfold maxLen; omega)
        rw [u8_nat hbt] at hsum
        have hslt := sumB_lt hbt
        obtain ⟨s, hs⟩ : ∃ s, sumB (bs.take (n - 4)) = s := ⟨_, rfl⟩
        rw [hs] at hsum hslt
        obtain ⟨q, cur, rfl, hq, hblk, -⟩ := own_some HO1.out (by omega)
        have HSUM := Lib.hid hsum
        clear hsum hr3 hbt hs u2 e4 hblk cur
        go_wp2_with fail
        refine HSUM.out.mono ?_
        rintro e w2 ⟨rfl, rfl⟩
        go_wp2
        go_loopw [38] (fun i wr => ∃ j : Nat, j ≤ 4 ∧ i = .int .i64 j ∧ ∃ bs' : List Nat, wr.ownsRow w.heap.size 5 1 (.slice (some ⟨q, 0, none⟩) n c1) n (bs'.map bv) ∧ (∀ b ∈ bs', b < 256) ∧ Below w.heap.size w wr) (fun i _ => 4 - (Lib.intOf i).toNat)
        case atStart => exact ⟨0, by omega, rfl, bs, HO1.out, HLT.out, HB1.out⟩
        case round =>
          obtain ⟨j, hj, rfl, bs', ho, hlt, hb⟩ := hrel
          have HO := Lib.hid ho; have HLT' := Lib.hid hlt; have HB := Lib.hid hb
          clear ho hlt hb
          by_cases hj4 : j < 4
          · obtain ⟨q', cur, hqq, hq', hblk, htk⟩ := own_some HO.out (by omega)
            obtain rfl : q = q' := by
              injection hqq with hqq
              injection hqq
            have hcl : ∀ k : Nat, k < n → ∃ u, wr.cell? ⟨q, k, none⟩ = some u := fun k hk => by
              rw [hblk.cell k, ← Array.getElem?_toList]
              have hl : (cur.toList.take (n * 1)).length = n := by
                rw [htk, List.length_map]
                have := HO.out.1; simpa using this
              rw [List.length_take] at hl
              exact ⟨_, List.getElem?_eq_getElem (by omega)⟩
            have hfz := fun k : Nat => hblk.frozen k
            have HFZ := Lib.hid hfz; have HCL := Lib.hid hcl
            clear hblk htk hfz hcl hqq
            by_cases hj10 : j = 0
            · subst hj10
              obtain ⟨u, hu⟩ := HCL.out (n - 4 + 0) (by omega)
              have hf := HFZ.out (n - 4 + 0)
              obtain ⟨k, hk⟩ : ∃ k, n - 4 + 0 = k := ⟨_, rfl⟩
              have hkI : (n : Int) - 4 + 0 = (k : Int) := by omega
              have hk0 : (n : Int) - 4 = (k : Int) - 0 := by omega
              rw [hk] at hu hf
              obtain ⟨bs2, ho2, hlt2⟩ := own_byte (k := k) (x := (s : Int) % 256) HO.out HLT'.out (by omega) (by omega)
              have hb2 := HB.out.setCell (p := ⟨q, k, none⟩) (by show w.heap.size ≤ q; omega) (.int .u8 ((s : Int) % 256))
              have HO2 := Lib.hid ho2; have HLT2 := Lib.hid hlt2; have HB2 := Lib.hid hb2; have HKI := Lib.hid hkI
              clear ho2 hlt2 hb2 hk0 hk
              go_wp2
              skip
              go_roundw
              case rel => exact ⟨1, by omega, by go_num, bs2, HO2.out, HLT2.out, HB2.out⟩
              case measure => simp [Lib.intOf]
            by_cases hj11 : j = 1
            · subst hj11
              obtain ⟨u, hu⟩ := HCL.out (n - 4 + 1) (by omega)
              have hf := HFZ.out (n - 4 + 1)
              obtain ⟨k, hk⟩ : ∃ k, n - 4 + 1 = k := ⟨_, rfl⟩
              have hkI : (n : Int) - 4 + 1 = (k : Int) := by omega
              have hk0 : (n : Int) - 4 = (k : Int) - 1 := by omega
              rw [hk] at hu hf
              obtain ⟨bs2, ho2, hlt2⟩ := own_byte (k := k) (x := (s : Int) / 256 % 256) HO.out HLT'.out (by omega) (by omega)
              have hb2 := HB.out.setCell (p := ⟨q, k, none⟩) (by show w.heap.size ≤ q; omega) (.int .u8 ((s : Int) / 256 % 256))
              have HO2 := Lib.hid ho2; have HLT2 := Lib.hid hlt2; have HB2 := Lib.hid hb2; have HKI := Lib.hid hkI
              clear ho2 hlt2 hb2 hk0 hk
              go_wp2
              skip
              go_roundw
              case rel => exact ⟨2, by omega, by go_num, bs2, HO2.out, HLT2.out, HB2.out⟩
              case measure => simp [Lib.intOf]
            by_cases hj12 : j = 2
            · subst hj12
              obtain ⟨u, hu⟩ := HCL.out (n - 4 + 2) (by omega)
              have hf := HFZ.out (n - 4 + 2)
              obtain ⟨k, hk⟩ : ∃ k, n - 4 + 2 = k := ⟨_, rfl⟩
              have hkI : (n : Int) - 4 + 2 = (k : Int) := by omega
              have hk0 : (n : Int) - 4 = (k : Int) - 2 := by omega
              rw [hk] at hu hf
              obtain ⟨bs2, ho2, hlt2⟩ := own_byte (k := k) (x := (s : Int) / 65536 % 256) HO.out HLT'.out (by omega) (by omega)
              have hb2 := HB.out.setCell (p := ⟨q, k, none⟩) (by show w.heap.size ≤ q; omega) (.int .u8 ((s : Int) / 65536 % 256))
              have HO2 := Lib.hid ho2; have HLT2 := Lib.hid hlt2; have HB2 := Lib.hid hb2; have HKI := Lib.hid hkI
              clear ho2 hlt2 hb2 hk0 hk
              go_wp2
              skip
              go_roundw
              case rel => exact ⟨3, by omega, by go_num, bs2, HO2.out, HLT2.out, HB2.out⟩
              case measure => simp [Lib.intOf]
            obtain rfl : j = 3 := by omega
            obtain ⟨u, hu⟩ := HCL.out (n - 4 + 3) (by omega)
            have hf := HFZ.out (n - 4 + 3)
            obtain ⟨k, hk⟩ : ∃ k, n - 4 + 3 = k := ⟨_, rfl⟩
            have hkI : (n : Int) - 4 + 3 = (k : Int) := by omega
            have hk0 : (n : Int) - 4 = (k : Int) - 3 := by omega
            rw [hk] at hu hf
            obtain ⟨bs2, ho2, hlt2⟩ := own_byte (k := k) (x := (s : Int) / 16777216) HO.out HLT'.out (by omega) (by omega)
            have hb2 := HB.out.setCell (p := ⟨q, k, none⟩) (by show w.heap.size ≤ q; omega) (.int .u8 ((s : Int) / 16777216))
            have HO2 := Lib.hid ho2; have HLT2 := Lib.hid hlt2; have HB2 := Lib.hid hb2; have HKI := Lib.hid hkI
            clear ho2 hlt2 hb2 hk0 hk
            go_wp2
            skip
            go_roundw
            case rel => exact ⟨4, by omega, by go_num, bs2, HO2.out, HLT2.out, HB2.out⟩
            case measure => simp [Lib.intOf]
          · obtain rfl : j = 4 := by omega
            go_wp2
            go_meet
            exact ⟨bs', HO.out, HLT'.out, HB.out⟩
      · have h4I : ¬ (0 : Int) ≤ (n : Int) - 4 := by omega
        rw [Bool.true_and, decide_eq_false h4]
        go_wp2
        go_meet
        exact ⟨bs, HO1.out, HLT.out, HB1.out⟩
  case rest =>
  obtain ⟨bs', ho, hlt, hb⟩ := hcut
  clear HO1 HB1 HX HLT
  have hbl : bs'.length = n := by have := ho.1; simpa using this
  have HO := Lib.hid ho; have HLT := Lib.hid hlt; have HB := Lib.hid hb; have HBL := Lib.hid hbl
  clear ho hlt hb hbl
  have hget := getP_any wc A1 n c1 wc.heap.size bs' (Reads.of_own HO.out) (Nat.le_refl _) hn1 hc1m (by omega) HLT.out
  have hcs := getP_cases bs' HLT.out (by rw [HBL.out]; omega)
  obtain ⟨p, er, hpe⟩ : ∃ p er, getP bs' = (p, er) := ⟨_, _, rfl⟩
  rw [hpe] at hget hcs
  simp only at hcs
  have HGET := Lib.hid hget; have HCS := Lib.hid hcs
  clear hget hcs hpe
  go_wp2_with fail
  refine HGET.out.mono ?_
  rintro e w2 ⟨cs, rfl, hpf, hb2⟩
  have hpc := ProjF.toC (B := w2.heap.size) (fun b hb => hb.2) hpf
  obtain ⟨v1, v2, v3, v4, v5, v6, v7, v8, rfl, x1, x2, x3, x4, x5, x6, x7, x8⟩ := hpf
  obtain ⟨B1, b1, rfl⟩ := x1.form
  obtain ⟨B2, b2, rfl⟩ := x2.form
  obtain ⟨B3, b3, rfl⟩ := x3.form
  obtain ⟨B4, b4, rfl⟩ := x4.form
  obtain ⟨B5, b5, rfl⟩ := x5.form
  obtain ⟨B6, b6, rfl⟩ := x6.form
  obtain ⟨B7, b7, rfl⟩ := x7.form
  obtain ⟨B8, b8, rfl⟩ := x8.form
  clear x1 x2 x3 x4 x5 x6 x7 x8
  have hbw := (Below.refl w2.heap.size w2).alloc (Nat.le_refl _) (.cells #[.slice B1 p.feats.length b1, .slice B2 p.sounds.length b2, .slice B3 p.marks.length b3, .slice B4 p.tree.length b4, .slice B5 p.laws.length b5, .slice B6 p.on.length b6, .slice B7 p.protos.length b7, .slice B8 p.entries.length b8] 33)
  have hx5 := Blk.new w2 33 #[.slice B1 p.feats.length b1, .slice B2 p.sounds.length b2, .slice B3 p.marks.length b3, .slice B4 p.tree.length b4, .slice B5 p.laws.length b5, .slice B6 p.on.length b6, .slice B7 p.protos.length b7, .slice B8 p.entries.length b8]
  have hb3 := HB.out.trans ((hb2.trans (hbw.mono hb2.size)).mono HB.out.size)
  have ho3 := own_below' (own_below' HO.out hb2) hbw
  have hpc3 := ProjC.keep (fun q hq => hbw.cell (p := q) hq) hpc
  obtain ⟨W3, hW3⟩ : ∃ W, w2.alloc (.cells #[.slice B1 p.feats.length b1, .slice B2 p.sounds.length b2, .slice B3 p.marks.length b3, .slice B4 p.tree.length b4, .slice B5 p.laws.length b5, .slice B6 p.on.length b6, .slice B7 p.protos.length b7, .slice B8 p.entries.length b8] 33) = W := ⟨_, rfl⟩
  rw [hW3] at hbw hx5 hb3 ho3 hpc3
  have hsz3 : w2.heap.size ≤ W3.heap.size := hbw.size
  have d0 := hx5.cell 0; have d1 := hx5.cell 1; have d2 := hx5.cell 2; have d3 := hx5.cell 3; have d4 := hx5.cell 4; have d5 := hx5.cell 5; have d6 := hx5.cell 6; have d7 := hx5.cell 7
  simp only [List.getElem?_toArray, List.getElem?_cons_zero, List.getElem?_cons_succ] at d0 d1 d2 d3 d4 d5 d6 d7
  have HX5 := Lib.hid hx5; have HB3 := Lib.hid hb3; have HO3 := Lib.hid ho3; have HPC := Lib.hid hpc3; have HW3 := Lib.hid hW3
  clear hb2 hpc hbw hx5 hb3 ho3 hpc3 hW3
  go_upto_if 58 with (rw [HW3.out])
  try rw [HW3.out]
  go_cut [] (fun wx => wx.ownsRow w.heap.size 5 1 (.slice A1 n c1) n (bs'.map bv) ∧ Below w.heap.size w wx)
  case first =>
    rcases HCS.out with ⟨rfl, h0, hput, hrd⟩ | ⟨hne, rfl⟩
    · have hpa := put_any W3 w2.heap.size p _ HPC.out hsz3 hrd (fun l hl => (HPC.out.law32 l hl).1)
      rw [hput, h0] at hpa
      have HPA := Lib.hid hpa; have HRD := Lib.hid hrd; have H0 := Lib.hid h0
      clear hpa hput hrd h0
      go_wp2_with fail
      refine HPA.out.mono ?_
      rintro e w4 ⟨v, rfl, ho4, hb4⟩
      obtain ⟨A4, c4, rfl, -, -⟩ := ownsRow_form ho4
      have ho5 := own_below' HO3.out hb4
      have heq := bytesEq_any A1 A4 n bs'.length c1 c4 w4.heap.size bs' bs' w4 (Reads.of_own ho5) (Reads.of_own ho4) HLT.out HLT.out
      rw [decide_eq_true rfl] at heq
      have hpc4 := ProjC.keep (fun q hq => hb4.cell (p := q) (by omega)) HPC.out
      have hck := check_any w4 w2.heap.size p _ hpc4 (Nat.le_trans hsz3 hb4.size) HRD.out
      rw [H0.out] at hck
      have HEQ := Lib.hid heq; have HCK := Lib.hid hck; have HO4 := Lib.hid ho5; have HB4 := Lib.hid (HB3.out.trans (hb4.mono HB3.out.size))
      have hx4 := HX5.out.below hb4 HX5.out.lt
      clear d0 d1 d2 d3 d4 d5 d6 d7
      have d0 := hx4.cell 0; have d1 := hx4.cell 1; have d2 := hx4.cell 2; have d3 := hx4.cell 3; have d4 := hx4.cell 4; have d5 := hx4.cell 5; have d6 := hx4.cell 6; have d7 := hx4.cell 7
      simp only [List.getElem?_toArray, List.getElem?_cons_zero, List.getElem?_cons_succ] at d0 d1 d2 d3 d4 d5 d6 d7
      clear ho4 hb4 ho5 heq hpc4 hck hx4
      go_wp2_with (go_at_call 12; refine HEQ.out.mono ?_; rintro e w5 ⟨rfl, rfl⟩)
      refine HCK.out.mono ?_
      rintro e w6 ⟨rfl, hb6⟩
      have HO6 := Lib.hid (own_below' HO4.out hb6); have HB6 := Lib.hid (HB4.out.trans (hb6.mono HB4.out.size))
      clear hb6 d0 d1 d2 d3 d4 d5 d6 d7
      go_wp2
      go_meet
      exact ⟨HO6.out, HB6.out⟩
    · have her : (er == (0 : Int)) = false := by rw [beq_eq_false_iff_ne]; exact hne
      have hsame := samePj_any W3 W3.heap.size noP _ _ (HPC.out.more hsz3) (ProjF.toC (B := W3.heap.size) (S := fun _ => False) (fun b hb => absurd hb id) (noP_cells W3 _)) (Nat.le_refl _) (fun x hx => by cases hx)
      have HSAME := Lib.hid hsame
      clear hsame hne
      go_wp2_with fail
      refine HSAME.out.mono ?_
      rintro e w6 ⟨rfl, hb6⟩
      have HO6 := Lib.hid (own_below' HO3.out hb6); have HB6 := Lib.hid (HB3.out.trans (hb6.mono HB3.out.size))
      clear hb6 d0 d1 d2 d3 d4 d5 d6 d7
      go_wp2
      go_meet
      exact ⟨HO6.out, HB6.out⟩
  case rest =>
  obtain ⟨ho3, hb3⟩ := hcut
  clear HO3 HB3 HO HB HPC HW3 HX5 d0 d1 d2 d3 d4 d5 d6 d7 HGET HCS
  have HO := Lib.hid ho3; have HB := Lib.hid hb3
  clear ho3 hb3
  have hgl := getLaw_any wc A1 n c1 wc.heap.size bs' (Reads.of_own HO.out) (Nat.le_refl _) hn1 hc1m (by omega) HLT.out
  have hcs := getL_cases bs' HLT.out
  have hnm := getL_small HLT.out (by rw [HBL.out]; omega)
  obtain ⟨l, nl, el, hle⟩ : ∃ l nl el, getL bs' = (l, nl, el) := ⟨_, _, _, rfl⟩
  rw [hle] at hgl hcs hnm
  simp only at hcs hnm
  rw [HBL.out] at hcs
  obtain ⟨zl, hzl, hzlen, hzone⟩ : ∃ zl : List Value, zeroL = zl ∧ zl.length = 18 ∧ ∀ u ∈ zl, u.oneCell' = true := ⟨zeroL, rfl, rfl, by decide⟩
  have HGL := Lib.hid hgl; have HCS := Lib.hid hcs; have HNM := Lib.hid hnm; have HQV := Lib.hid hzl; have HQLEN := Lib.hid hzlen
  clear hgl hcs hnm hle hzl hzlen hzone
  rename_i w0c
  go_wp2_with fail
  refine HGL.out.mono ?_
  rintro e w2 ⟨cs1, rfl, hlf2, hb2⟩
  dsimp only
  obtain ⟨hlen2, hone2⟩ := hlf2.all
  have hz2 := hb2.size
  have y2 : Blk (w2.alloc (.cells #[.string ⟨#[]⟩, .int .i64 0, .int .u32 0, .int .u32 0, .bool false, .int .i64 0, .int .i64 0, .slice none 0 0, .int .i64 0, .int .u32 0, .int .u32 0, .bool false, .int .i64 0, .int .i64 0, .slice none 0 0, .slice none 0 0, .slice none 0 0, .int .i64 0] 62)) w2.heap.size 62 zl.toArray := by rw [← HQV.out]; exact Blk.new w2 62 #[.string ⟨#[]⟩, .int .i64 0, .int .u32 0, .int .u32 0, .bool false, .int .i64 0, .int .i64 0, .slice none 0 0, .int .i64 0, .int .u32 0, .int .u32 0, .bool false, .int .i64 0, .int .i64 0, .slice none 0 0, .slice none 0 0, .slice none 0 0, .int .i64 0]
  have hsr := Chg.setRow (w2.alloc (.cells #[.string ⟨#[]⟩, .int .i64 0, .int .u32 0, .int .u32 0, .bool false, .int .i64 0, .int .i64 0, .slice none 0 0, .int .i64 0, .int .u32 0, .int .u32 0, .bool false, .int .i64 0, .int .i64 0, .slice none 0 0, .slice none 0 0, .slice none 0 0, .int .i64 0] 62)) w2.heap.size cs1.toArray
  have hall : Below w2.heap.size w2 ((w2.alloc (.cells #[.string ⟨#[]⟩, .int .i64 0, .int .u32 0, .int .u32 0, .bool false, .int .i64 0, .int .i64 0, .slice none 0 0, .int .i64 0, .int .u32 0, .int .u32 0, .bool false, .int .i64 0, .int .i64 0, .slice none 0 0, .slice none 0 0, .slice none 0 0, .int .i64 0] 62)).setRow w2.heap.size cs1.toArray) := ((Below.refl w2.heap.size w2).alloc (Nat.le_refl _) _).trans (hsr.below (by simp) (by simp))
  have hy := y2.setRow cs1.toArray
  have hl := ((hlf2.toC (B := w2.heap.size) (fun b hb => hb.2)).below hall).more hall.size
  have hb := HB.out.trans ((hb2.trans (hall.mono hz2)).mono HB.out.size)
  have ho3 := own_below' (own_below' HO.out hb2) hall
  obtain ⟨w3, hw3⟩ : ∃ W, (w2.alloc (.cells #[.string ⟨#[]⟩, .int .i64 0, .int .u32 0, .int .u32 0, .bool false, .int .i64 0, .int .i64 0, .slice none 0 0, .int .i64 0, .int .u32 0, .int .u32 0, .bool false, .int .i64 0, .int .i64 0, .slice none 0 0, .slice none 0 0, .slice none 0 0, .int .i64 0] 62)).setRow w2.heap.size cs1.toArray = W := ⟨_, rfl⟩
  rw [hw3] at hy hl hb ho3
  have HLEN1 := Lib.hid hlen2; have HONE1 := Lib.hid hone2; have HY2 := Lib.hid y2; have HW3 := Lib.hid hw3; have HY := Lib.hid hy; have HL := Lib.hid hl; have HB3 := Lib.hid hb; have HO3 := Lib.hid ho3
  clear hlf2 hb2 hlen2 hone2 hz2 y2 hsr hall hy hl hb ho3 hw3
  go_upto_if 88 with (refine law_store rfl _ _ rfl _ rfl cs1 zl rfl HLEN1.out HONE1.out HY2.out HQLEN.out ?_; rw [HW3.out]; simp only [Act.put])
  go_cut [] (fun wx => wx.ownsRow w.heap.size 5 1 (.slice A1 n c1) n (bs'.map bv) ∧ Below w.heap.size w wx)
  case first =>
    rcases HCS.out with ⟨rfl, h0, hnl, hle, htk⟩ | ⟨rfl, hel⟩
    · have hpl := putLaw_any w3 w3.heap.size l cs1 HL.out (Nat.le_refl _) HNM.out
      rw [lawE_yes h0] at hpl
      have hpb : ∀ b ∈ putL l, b < 256 := by rw [← htk]; exact fun b hb => HLT.out b (List.mem_of_mem_take hb)
      obtain ⟨pb, hpbe⟩ : ∃ pb, putL l = pb := ⟨_, rfl⟩
      rw [hpbe] at hpl hnl htk hpb
      subst hnl
      obtain ⟨A5, y1, y2⟩ := cut_hi A1 n c1 pb.length hle hn1
      have HPL := Lib.hid hpl; have H0 := Lib.hid h0; have HTK := Lib.hid htk; have HPB := Lib.hid hpb; have Y2 := Lib.hid y2
      have hleI : ¬ (n : Int) < (pb.length : Int) := by omega
      have hleN : ¬ n < pb.length := by omega
      have hleD : decide (n < pb.length) = false := decide_eq_false hleN
      clear hpl h0 hpbe htk hpb y2
      go_wp2_with (refine law_load rfl _ rfl _ rfl _ HLEN1.out HY.out ?_; simp only [Act.put, List.setIfInBounds_toArray, List.set_cons_zero, List.set_cons_succ])
      refine HPL.out.mono ?_
      rintro e w4 ⟨v, rfl, ho4, hb4⟩
      obtain ⟨A4, c4, rfl, -, -⟩ := ownsRow_form ho4
      have ho5 := own_below' HO3.out hb4
      have hr5 := Y2.out w4 w4.heap.size _ (Reads.of_own ho5)
      rw [← List.map_take, HTK.out] at hr5
      have heq := bytesEq_any A5 A4 pb.length pb.length c1 c4 w4.heap.size pb pb w4 hr5 (Reads.of_own ho4) HPB.out HPB.out
      rw [decide_eq_true rfl] at heq
      have hlc := lawCheck_any w4 w3.heap.size l cs1 (HL.out.below hb4) hb4.size HNM.out
      rw [lawE_yes H0.out] at hlc
      have HEQ := Lib.hid heq; have HLC := Lib.hid hlc; have HO4 := Lib.hid ho5; have HB4 := Lib.hid (HB3.out.trans (hb4.mono HB3.out.size))
      have HY4 := Lib.hid (HY.out.below hb4 HY.out.lt)
      clear ho4 hb4 ho5 hr5 heq hlc
      go_wp2_with fail
      refine HEQ.out.mono ?_
      rintro e w5 ⟨rfl, rfl⟩
      go_wp2_with (refine law_loadA rfl _ rfl _ rfl _ HLEN1.out HY4.out ?_; simp only [Act.put, List.setIfInBounds_toArray, List.set_cons_zero, List.set_cons_succ])
      refine HLC.out.mono ?_
      rintro e w6 ⟨rfl, hb6⟩
      have HO6 := Lib.hid (own_below' HO4.out hb6); have HB6 := Lib.hid (HB4.out.trans (hb6.mono HB4.out.size))
      clear hb6
      go_wp2
      go_meet
      exact ⟨HO6.out, HB6.out⟩
    · rcases hel with rfl | rfl
      · go_wp2
        go_meet
        exact ⟨HO3.out, HB3.out⟩
      · go_wp2
        go_meet
        exact ⟨HO3.out, HB3.out⟩
  case rest =>
  obtain ⟨ho3, hb3⟩ := hcut
  clear HO3 HB3 HO HB HGL HCS HNM HQV HQLEN HLEN1 HONE1 HY2 HW3 HY HL
  have HO := Lib.hid ho3; have HB := Lib.hid hb3
  clear ho3 hb3
  have hgw := getWord_any wc A1 n c1 wc.heap.size bs' (Reads.of_own HO.out) (Nat.le_refl _) hn1 hc1m (by omega) HLT.out
  have hcs := getW_cases bs' HLT.out
  obtain ⟨ws, nw, ew, hwe⟩ : ∃ l nl el, getW bs' = (l, nl, el) := ⟨_, _, _, rfl⟩
  rw [hwe] at hgw hcs
  simp only at hcs
  rw [HBL.out] at hcs
  have HGW := Lib.hid hgw; have HCS := Lib.hid hcs
  clear hgw hcs hwe
  go_wp2_with fail
  refine HGW.out.mono ?_
  rintro e w2 ⟨v, rfl, hw2, hb2⟩
  dsimp only
  have hw2' : w2.ownsRow wc.heap.size 55 2 v ws.length (ws.flatMap sndC) := hw2
  obtain ⟨A6, c6, rfl, hn6, hc6⟩ := ownsRow_form hw2'
  have HO2 := Lib.hid (own_below' HO.out hb2); have HB2 := Lib.hid (HB.out.trans (hb2.mono HB.out.size)); have HWW := Lib.hid hw2'
  have hw6 : ws.length ≤ maxLen := Nat.le_trans hn6 hc6
  clear hw2 hw2' hb2
  unfold maxLen at hc6
  go_upto_if 138 with fail
  go_cut [] (fun wx => Below w.heap.size w wx)
  case first =>
    rcases HCS.out with ⟨rfl, h0, hok, hnl, hle, htk⟩ | ⟨hne, rfl, rfl⟩
    · have hpl := putWord_any A6 ws.length c6 w2.heap.size ws w2 (Reads.of_own HWW.out) (Nat.le_refl _) hw6 hok
      rw [h0] at hpl
      have hpb : ∀ b ∈ putW ws, b < 256 := by rw [← htk]; exact fun b hb => HLT.out b (List.mem_of_mem_take hb)
      obtain ⟨pb, hpbe⟩ : ∃ pb, putW ws = pb := ⟨_, rfl⟩
      rw [hpbe] at hpl hnl htk hpb
      subst hnl
      obtain ⟨A5, y1, y2⟩ := cut_hi A1 n c1 pb.length hle hn1
      have HPL := Lib.hid hpl; have H0 := Lib.hid h0; have HTK := Lib.hid htk; have HPB := Lib.hid hpb; have Y2 := Lib.hid y2; have HOK := Lib.hid hok
      have hleI : ¬ (n : Int) < (pb.length : Int) := by omega
      have hleN : ¬ n < pb.length := by omega
      have hleD : decide (n < pb.length) = false := decide_eq_false hleN
      clear hpl h0 hpbe htk hpb y2 hok
      go_wp2_with fail
      refine HPL.out.mono ?_
      rintro e w4 ⟨v, rfl, ho4, hb4⟩
      obtain ⟨A4, c4, rfl, -, -⟩ := ownsRow_form ho4
      have ho5 := own_below' HO2.out hb4
      have hr5 := Y2.out w4 w4.heap.size _ (Reads.of_own ho5)
      rw [← List.map_take, HTK.out] at hr5
      have heq := bytesEq_any A5 A4 pb.length pb.length c1 c4 w4.heap.size pb pb w4 hr5 (Reads.of_own ho4) HPB.out HPB.out
      rw [decide_eq_true rfl] at heq
      have hwc := wordCheck_any A6 ws.length c6 w4.heap.size ws w4 (Reads.of_own (own_below' HWW.out hb4)) (Nat.le_refl _) hw6 HOK.out
      rw [H0.out] at hwc
      have HEQ := Lib.hid heq; have HWC := Lib.hid hwc; have HB4 := Lib.hid (HB2.out.trans (hb4.mono HB2.out.size))
      clear ho4 hb4 ho5 hr5 heq hwc
      go_wp2_with (go_at_call 12; refine HEQ.out.mono ?_; rintro e w5 ⟨rfl, rfl⟩)
      refine HWC.out.mono ?_
      rintro e w6 ⟨rfl, hb6⟩
      have HB6 := Lib.hid (HB4.out.trans (hb6.mono HB4.out.size))
      clear hb6
      go_wp2
      go_meet
      exact HB6.out
    · have hwe : (ew == (0 : Int)) = false := by rw [beq_eq_false_iff_ne]; exact hne
      clear hne
      go_wp2
      go_meet
      exact HB2.out
  case rest =>
  have HB7 := Lib.hid hcut
  clear hcut
  go_wp2_with fail
  refine (HWK.out wc).mono ?_
  rintro e w9 ⟨rfl, hb9⟩
  have HB9 := Lib.hid (HB7.out.trans (hb9.mono HB7.out.size))
  clear hb9
  go_wp2
  go_ret
  exact ⟨rfl, HB9.out⟩
theorem open_b {H : Type} {enc : TypeId × Value → H} {P : Program} {t : TypeId} {W : World} {base b0 : Nat} {v : Value} {d : DataW H} {ps : List MemPlace} (ht : P.underlying t = some .bool) (hval : Value.okWide P W .any b0 t v) (_h : DataW.Trod enc P W base (fun _ => true) true t v d ps) : ∃ b, v = .bool b :=
  Go.WideShapes.okWide_bool ht hval
end Go.Proofs.YtmepaeahchiglaaGreatDoor

