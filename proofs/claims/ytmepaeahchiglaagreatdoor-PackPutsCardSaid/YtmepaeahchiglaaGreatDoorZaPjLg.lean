/-
  layer 43's gate: Light of projects. Conditions: what can be read.
-/
import Derived.Test.YtmepaeahchiglaaGreatDoorZabe
namespace Go.Proofs.YtmepaeahchiglaaGreatDoor
open Go.RowKit Go.Lib

/-- The list of texts and the call's box. -/
structure TS (w wr : World) (cs : Array Value) (v : Value) (n : Nat) : Prop where
  own : ∃ ss : List ByteArray, ss.length = n ∧ wr.ownsRow w.heap.size 9 1 v n (ss.map Value.string)
  box : Blk wr w.heap.size 33 cs
  bel : Below w.heap.size w wr
theorem TS.call {w wr w2 : World} {cs : Array Value} {v : Value} {n : Nat} (h : TS w wr cs v n) (hb : Below wr.heap.size wr w2) : TS w w2 cs v n := by
  obtain ⟨⟨ss, h1, h2⟩, h3, h4⟩ := h
  exact ⟨⟨ss, h1, own_below h2 hb⟩, h3.below hb h3.lt, h4.trans (hb.mono h4.size)⟩
theorem TS.append {w w2 : World} {cs : Array Value} {v : Value} {n : Nat} {ops : Array Oper} {rest : List Oper} {o : Oper} {a : Act} {Q : Exit → Act → World → Prop} (hgd : o.guard = none) (s x : Operand)
    (ho : o.op = .call { callee := .builtin .append, args := #[s, x], argTypes := #[22, 22] })
    (h : TS w w2 cs v n) (hs : a.eval s = v) (d c : Nat) (sy : ByteArray) (hx : a.eval x = .slice (some ⟨d, 0, none⟩) 1 c) (hd : w2.cell? ⟨d, 0, none⟩ = some (.string sy))
    (hlen : n ≤ 100000)
    (hk : ∀ v' w', TS w w' cs v' (n + 1) → w2.grownBy w' v.ownBlock → wpList Tryz.prog ops Q rest (a.put o.dst v') w') : wpList Tryz.prog ops Q (o :: rest) a w2 := by
  obtain ⟨i0, hi, hz0, hz1, hz2⟩ := info_parts (show (Tryz.prog.info? 9).map (fun i => (i.zero, i.size, i.bytes)) = some (some (.string ByteArray.empty), 1, 16) by kernel_rfl)
  obtain ⟨⟨ss, h1, h2⟩, h3, h4⟩ := h
  have hne := own_blk_ne h2 h3 (by decide)
  have hdl : d < w2.heap.size := by
    unfold World.cell? at hd
    cases hq : w2.heap[d]? with
    | none => simp [hq] at hd
    | some o => exact (Array.getElem?_eq_some_iff.1 hq).1
  have hrd : Reads w2 w2.heap.size 1 (some ⟨d, 0, none⟩) 1 [.string sy] := ⟨rfl, fun _ => ⟨_, rfl, hdl, fun j u hu => by
    cases j with
    | zero => rw [add_at]; simpa using hd.trans hu
    | succ j => simp at hu⟩⟩
  refine wpList_append_any w2 hgd s x 22 ho w.heap.size 9 i0 (.string ByteArray.empty) 1 16 Tryz.underlying22 hi hz0 hz1 hz2 rfl (by decide) v n _ hs h2 w2.heap.size _ 1 c [.string sy] hx hrd (by simp [Value.oneCell']) (by unfold maxLen; omega) (by omega) h4.size ?_
  intro v' w' k1 k2 k3
  exact hk v' w' ⟨⟨ss ++ [sy], by rw [List.length_append, h1]; rfl, by rw [List.map_append]; exact k1⟩, h3.grown k2 (fun e => hne e.symm), h4.grown k2 h4.size (fun g hg => (h2.lt g hg).1)⟩ k2
structure FS (w wr : World) (v : Value) (n : Nat) : Prop where
  own : ∃ fl : List FmV, fl.length = n ∧ wr.ownsRow w.heap.size 82 2 v n (fl.flatMap fmC)
theorem FS.call {w wr w2 : World} {v : Value} {n : Nat} (h : FS w wr v n) (hb : Below wr.heap.size wr w2) : FS w w2 v n := by
  obtain ⟨⟨fl, h1, h2⟩⟩ := h
  exact ⟨⟨fl, h1, own_below' h2 hb⟩⟩
theorem FS.grown {w w2 w' : World} {cs : Array Value} {v f : Value} {n m : Nat} (h : FS w w2 f m) (ht : TS w w2 cs v n) (hg : w2.grownBy w' v.ownBlock) : FS w w' f m := by
  obtain ⟨⟨fl, h1, h2⟩⟩ := h
  obtain ⟨ss, -, h3⟩ := ht.own
  exact ⟨⟨fl, h1, h2.kept hg (own_own_ne h2 h3 (by decide))⟩⟩
theorem TS.keeps {w w2 w' : World} {cs cs2 : Array Value} {v : Value} {n g : Nat} {t : TypeId} (h : TS w w2 cs v n) (hg : w2.grownBy w' v.ownBlock) (hb : Blk w2 g t cs2) (ht : 9 ≠ t) : Blk w' g t cs2 := by
  obtain ⟨ss, -, h3⟩ := h.own
  exact hb.grown hg (fun e => own_blk_ne h3 hb ht e.symm)
theorem FS.append {w w2 : World} {cs : Array Value} {v f : Value} {n m : Nat} {ops : Array Oper} {rest : List Oper} {o : Oper} {a : Act} {Q : Exit → Act → World → Prop} (hgd : o.guard = none) (s x : Operand)
    (ho : o.op = .call { callee := .builtin .append, args := #[s, x], argTypes := #[30, 30] })
    (h : FS w w2 f m) (ht : TS w w2 cs v n) (hs : a.eval s = f) (A : Option Addr) (k c : Nat) (fl2 : List FmV) (hx : a.eval x = .slice A k c) (hr : Reads w2 w2.heap.size 2 A k (fl2.flatMap fmC))
    (hlen : m + k ≤ 100000)
    (hk : ∀ v' w', FS w w' v' (m + k) → TS w w' cs v n → wpList Tryz.prog ops Q rest (a.put o.dst v') w') : wpList Tryz.prog ops Q (o :: rest) a w2 := by
  obtain ⟨i0, hi, hz0, hz1, hz2⟩ := info_parts (show (Tryz.prog.info? 82).map (fun i => (i.zero, i.size, i.bytes)) = some (some (.agg #[.bool false, .slice none 0 0]), 2, 32) by kernel_rfl)
  obtain ⟨⟨fl, h1, h2⟩⟩ := h
  have hkl := hr.len_of (fun _ => rfl) (by decide)
  refine wpList_append_any w2 hgd s x 30 ho w.heap.size 82 i0 (.agg #[.bool false, .slice none 0 0]) 2 32 Tryz.underlying30 hi hz0 hz1 hz2 rfl (by decide) f m _ hs h2 w2.heap.size A k c (fl2.flatMap fmC) hx hr (by intro u hu; obtain ⟨f, _, hf⟩ := List.mem_flatMap.1 hu; simp only [List.mem_cons, List.not_mem_nil, or_false] at hf; rcases hf with rfl | rfl <;> rfl) (by unfold maxLen; omega) (by omega) ht.bel.size ?_
  intro v' w' k1 k2 k3
  obtain ⟨ss, h3, h4⟩ := ht.own
  refine hk v' w' ⟨⟨fl ++ fl2, by rw [List.length_append, h1, hkl], by rw [List.flatMap_append]; exact k1⟩⟩ ⟨⟨ss, h3, h4.kept k2 (own_own_ne h4 h2 (by decide))⟩, ht.box.grown k2 (fun e => own_blk_ne h2 ht.box (by decide) e.symm), ht.bel.grown k2 ht.bel.size (fun g hg => (h2.lt g hg).1)⟩
theorem rows_forms {w : World} {B : Nat} : ∀ {l : List Fm} {xs : List Value}, RowsC FormC w B l xs → ∃ fl : List FmV, xs = fl.flatMap fmC ∧ fl.length = l.length
  | [], _, h => ⟨[], h, rfl⟩
  | f :: l, _, ⟨c1, c2, e, ⟨v, h1, h2⟩, h3⟩ => by
    obtain ⟨A, n, c, rfl, -⟩ := h2.form
    obtain ⟨fl, h4, h5⟩ := rows_forms h3
    exact ⟨(f.has, A, n, c) :: fl, by rw [e, h1, h4]; rfl, by simp [h5]⟩
theorem forms_cells {w : World} {B : Nat} {l : List Fm} {v : Value} (h : SlC FormC 2 w B l v) : ∃ A n c, v = .slice A n c ∧ ∃ xs, Reads w B 2 A n xs ∧ ∃ fl : List FmV, xs = fl.flatMap fmC ∧ n = fl.length := by
  obtain ⟨A, c, xs, rfl, -, h2, h3⟩ := h
  obtain ⟨fl, h4, h5⟩ := rows_forms h3
  exact ⟨A, _, c, rfl, xs, h2, fl, h4, h5.symm⟩
set_option linter.unnecessarySimpa false in
set_option linter.unusedSimpArgs false in
set_option linter.unusedVariables false in
set_option maxRecDepth 20000 in
set_option maxHeartbeats 8000000 in
theorem light_any (w : World) (B : Nat) (p : Pj) (cs : List Value) (hp : ProjC w B p cs) (hB : B ≤ w.heap.size) :
    Calls Tryz.prog 8 #[.agg cs.toArray] w (LightP w p.tree.length p.on) := by
  obtain ⟨v1, v2, v3, v4, v5, v6, v7, v8, rfl, q1, q2, q3, q4, q5, q6, q7, q8⟩ := hp
  obtain ⟨A1, m1, c1, rfl, e1⟩ := q1.form
  obtain ⟨A2, m2, c2, rfl, e2⟩ := q2.form
  obtain ⟨A3, m3, c3, rfl, e3⟩ := q3.form
  obtain ⟨A4, m4, c4, rfl, e4⟩ := q4.form
  obtain ⟨A5, m5, c5, rfl, e5⟩ := q5.form
  obtain ⟨A6, m6, c6, rfl, e6⟩ := q6.form
  obtain ⟨A7, m7, c7, rfl, e7⟩ := q7.form
  obtain ⟨A8, m8, c8, rfl, e8⟩ := q8.form
  obtain ⟨o, ho⟩ : ∃ o, Obj.cells #[.slice A1 m1 c1, .slice A2 m2 c2, .slice A3 m3 c3, .slice A4 m4 c4, .slice A5 m5 c5, .slice A6 m6 c6, .slice A7 m7 c7, .slice A8 m8 c8] 33 = o := ⟨_, rfl⟩
  have hb0 := (Below.refl w.heap.size w).alloc (Nat.le_refl _) o
  have hk0 : Blk (w.alloc o) w.heap.size 33 #[.slice A1 m1 c1, .slice A2 m2 c2, .slice A3 m3 c3, .slice A4 m4 c4, .slice A5 m5 c5, .slice A6 m6 c6, .slice A7 m7 c7, .slice A8 m8 c8] := by rw [← ho]; exact Blk.new w _ _
  have hle1 : w.heap.size ≤ (w.alloc o).heap.size := by rw [World.size_alloc]; omega
  have hlt1 : w.heap.size < (w.alloc o).heap.size := by rw [World.size_alloc]; omega
  have hkp := fun (W : World) (hW : Below w.heap.size w W) => fun (q : Addr) (hq : q.block < B) => hW.cell (p := q) (Nat.lt_of_lt_of_le hq hB)
  have hno : ∀ (W : World), Below w.heap.size w W → LightP w p.tree.length p.on (.returned (.bool false)) W := fun W hW => ⟨⟨false, rfl, fun h => by cases h⟩, hW⟩
  have hl25 := light25_any _ _ _ B p.tree p.laws p.on (w.alloc o) (SlC.plain (hkp _ hb0) q4 (fun _ _ h => h)) (SlC.plain (hkp _ hb0) q5 (fun _ _ h => h.keep (hkp _ hb0))) (SlC.plain (hkp _ hb0) q6 (fun _ _ h => OnC.keep (hkp _ hb0) h)) (Nat.le_trans hB hle1)
  obtain ⟨A1', c1', hv1, ⟨h11, h12⟩, r1⟩ := q1.flat
  injection hv1 with hv1a hv1b hv1c
  subst hv1a hv1c
  rw [flatMap_one, ← e1] at r1
  have hclone := fun (W : World) (hW : Below w.heap.size w W) (hm : m1 ≤ 100000) => cloneS_any A1 m1 c1 (p.feats.map Value.string) W B (r1.below (hW.mono hB)) (by intro u hu; obtain ⟨s, _, rfl⟩ := List.mem_map.1 hu; rfl) (Nat.le_trans hB hW.size) hm
  have HO := Lib.hid ho; have HB0 := Lib.hid hb0; have HK0 := Lib.hid hk0; have HKP := Lib.hid hkp; have HNO := Lib.hid hno; have HL25 := Lib.hid hl25; have HCLONE := Lib.hid hclone; have HBB := Lib.hid hB
  have E1 := Lib.hid e1; have E2 := Lib.hid e2; have E3 := Lib.hid e3; have E4 := Lib.hid e4; have E5 := Lib.hid e5; have E7 := Lib.hid e7; have E8 := Lib.hid e8
  have HQ2 := Lib.hid q2; have HQ3 := Lib.hid q3; have HQ4 := Lib.hid q4; have HQ5 := Lib.hid q5; have HQ7 := Lib.hid q7; have HQ8 := Lib.hid q8
  have hm4' := q4.len.2; have hm5' := q5.len.2
  unfold maxLen at hm4' hm5'
  have g0 := hk0.cell 0; have g1 := hk0.cell 1; have g2 := hk0.cell 2; have g3 := hk0.cell 3; have g4 := hk0.cell 4; have g5 := hk0.cell 5; have g6 := hk0.cell 6; have g7 := hk0.cell 7
  simp only [List.getElem?_toArray, List.getElem?_cons_zero, List.getElem?_cons_succ] at g0 g1 g2 g3 g4 g5 g6 g7
  clear q1 q2 q3 q4 q5 q6 q7 q8 e1 e2 e3 e4 e5 e6 e7 e8 ho hb0 hk0 hkp hno hl25 hclone r1 h11 h12 hB hv1b
  go_enter Tryz.func8, Tryz.ntmps8
  by_cases h0 : 40 < m1
  · have h0I : (40 : Int) < (m1 : Int) := by omega
    go_wp2_with (rw [HO.out])
    go_ret
    exact HNO.out _ HB0.out
  have h0I : ¬ (40 : Int) < (m1 : Int) := by omega
  by_cases h1 : 300 < m2
  · have h1I : (300 : Int) < (m2 : Int) := by omega
    go_wp2_with (rw [HO.out])
    go_ret
    exact HNO.out _ HB0.out
  have h1I : ¬ (300 : Int) < (m2 : Int) := by omega
  by_cases h2 : 40 < m3
  · have h2I : (40 : Int) < (m3 : Int) := by omega
    go_wp2_with (rw [HO.out])
    go_ret
    exact HNO.out _ HB0.out
  have h2I : ¬ (40 : Int) < (m3 : Int) := by omega
  by_cases h3 : 300 < m7
  · have h3I : (300 : Int) < (m7 : Int) := by omega
    go_wp2_with (rw [HO.out])
    go_ret
    exact HNO.out _ HB0.out
  have h3I : ¬ (300 : Int) < (m7 : Int) := by omega
  by_cases h4 : 300 < m8
  · have h4I : (300 : Int) < (m8 : Int) := by omega
    go_wp2_with (rw [HO.out])
    go_ret
    exact HNO.out _ HB0.out
  have h4I : ¬ (300 : Int) < (m8 : Int) := by omega
  go_wp2_with (rw [HO.out])
  refine HL25.out.mono ?_
  rintro e w1 ⟨⟨b, rfl, hbon⟩, hb1⟩
  have HB1 := Lib.hid (HB0.out.trans (hb1.mono hle1)); have HK1 := Lib.hid (HK0.out.below hb1 hlt1)
  have HBON := Lib.hid hbon
  clear hb1 hbon g0 g1 g2 g3 g4 g5 g6 g7
  have g0 := HK1.out.cell 0; have g1 := HK1.out.cell 1; have g2 := HK1.out.cell 2; have g3 := HK1.out.cell 3; have g4 := HK1.out.cell 4; have g5 := HK1.out.cell 5; have g6 := HK1.out.cell 6; have g7 := HK1.out.cell 7
  simp only [List.getElem?_toArray, List.getElem?_cons_zero, List.getElem?_cons_succ] at g0 g1 g2 g3 g4 g5 g6 g7
  cases b with
  | false =>
    go_wp2
    go_ret
    exact HNO.out _ HB1.out
  | true =>
    have HYES : Hid (∀ (b : Bool) (W : World), Below w.heap.size w W → LightP w p.tree.length p.on (.returned (.bool b)) W) := Lib.hid (fun b W hW => ⟨⟨b, rfl, fun _ => HBON.out rfl⟩, hW⟩)
    have hm70 : m4 ≤ 70 := by have := (HBON.out rfl).1; have := E4.out; omega
    have hcl := HCLONE.out w1 HB1.out (by omega)
    have HCL := Lib.hid hcl
    clear hcl
    go_wp2_with fail
    refine HCL.out.mono ?_
    rintro e w2 ⟨v2, rfl, ho2, hb2⟩
    have HT1 : Hid (TS w w2 #[.slice A1 m1 c1, .slice A2 m2 c2, .slice A3 m3 c3, .slice A4 m4 c4, .slice A5 m5 c5, .slice A6 m6 c6, .slice A7 m7 c7, .slice A8 m8 c8] v2 m1) := Lib.hid ⟨⟨p.feats, E1.out.symm, own_mono ho2 HB1.out.size⟩, HK1.out.below hb2 HK1.out.lt, HB1.out.trans (hb2.mono HB1.out.size)⟩
    clear ho2 hb2 g0 g1 g2 g3 g4 g5 g6 g7
    have g0 := HT1.out.box.cell 0
    have g1 := HT1.out.box.cell 1
    have g2 := HT1.out.box.cell 2
    have g3 := HT1.out.box.cell 3
    have g4 := HT1.out.box.cell 4
    have g5 := HT1.out.box.cell 5
    have g6 := HT1.out.box.cell 6
    have g7 := HT1.out.box.cell 7
    simp only [List.getElem?_toArray, List.getElem?_cons_zero, List.getElem?_cons_succ] at g0 g1 g2 g3 g4 g5 g6 g7
    go_wp2
    go_loopw [3, 56] (fun v i wr => ∃ (k N : Nat), k ≤ m2 ∧ i = .int .i64 k ∧ TS w wr #[.slice A1 m1 c1, .slice A2 m2 c2, .slice A3 m3 c3, .slice A4 m4 c4, .slice A5 m5 c5, .slice A6 m6 c6, .slice A7 m7 c7, .slice A8 m8 c8] v N ∧ N ≤ 40 + k) (fun _ i _ => m2 - (RowKit.intOf i).toNat)
    case atStart => exact ⟨0, _, by omega, rfl, HT1.out, by omega⟩
    case round =>
      obtain ⟨k, N, hk, rfl, hts, hN⟩ := hrel
      have HTS := Lib.hid hts
      obtain ⟨V, hV⟩ : ∃ W, W = wr := ⟨_, rfl⟩
      subst hV
      clear hts g0 g1 g2 g3 g4 g5 g6 g7
      have g0 := HTS.out.box.cell 0
      have g1 := HTS.out.box.cell 1
      have g2 := HTS.out.box.cell 2
      have g3 := HTS.out.box.cell 3
      have g4 := HTS.out.box.cell 4
      have g5 := HTS.out.box.cell 5
      have g6 := HTS.out.box.cell 6
      have g7 := HTS.out.box.cell 7
      simp only [List.getElem?_toArray, List.getElem?_cons_zero, List.getElem?_cons_succ] at g0 g1 g2 g3 g4 g5 g6 g7
      by_cases hlt : k < m2
      · have hkI : (k : Int) < (m2 : Int) := by omega
        have hk0 : (0 : Int) ≤ (k : Int) := by omega
        obtain ⟨ad, cs, hA, had, hP, hcc⟩ := slC_cells (plain_len (f := namC) (m := 3) fun _ => rfl) (SlC.plain (HKP.out V HTS.out.bel) HQ2.out (fun _ _ h => h)) (i := k) (by have := E2.out; omega)
        subst hA
        generalize p.sounds[k]'(by have := E2.out; omega) = x at *
        obtain ⟨sy, sv, sa⟩ := x
        obtain rfl : cs = [.string sy, .int .u32 sv, .int .u32 sa] := hP
        have e0 := hcc 0 _ rfl
        have e1 := hcc 1 _ rfl
        have e2 := hcc 2 _ rfl
        rw [Nat.add_zero] at e0
        rw [add_next ad (k * 3) 0] at e1
        rw [add_next ad (k * 3) 1] at e2
        clear hcc
        have hal := (Below.refl V.heap.size V).alloc (Nat.le_refl _) (.cells #[.string sy, .int .u32 sv, .int .u32 sa] 74)
        have h2 := hal.alloc hal.size (.cells #[.string sy] 9)
        have hts2 := HTS.out.call h2
        have hd : ((V.alloc (.cells #[.string sy, .int .u32 sv, .int .u32 sa] 74)).alloc (.cells #[.string sy] 9)).cell? ⟨V.heap.size + 1, 0, none⟩ = some (.string sy) := by
          have := (Blk.new (V.alloc (.cells #[.string sy, .int .u32 sv, .int .u32 sa] 74)) 9 #[.string sy]).cell 0
          rw [World.size_alloc] at this
          simpa using this
        have HTS2 := Lib.hid hts2; have HD := Lib.hid hd
        clear hal h2 hts2 hd
        go_wp2_with (at_builtin; refine TS.append rfl _ _ rfl HTS2.out rfl _ _ sy rfl HD.out (by omega) ?_; intro v3 w3 hts3 hg3; have HTS3 := Lib.hid hts3; clear hts3 hg3)
        go_roundw
        case rel => exact ⟨k + 1, N + 1, by omega, by go_num, HTS3.out, by omega⟩
        case measure => simp [RowKit.intOf]; omega
      · obtain rfl : m2 = k := by omega
        have HT2 := HTS; have hN2 := hN
        clear HTS hlt hN
        go_wp2
        go_loopw [3, 69] (fun v i wr => ∃ (k N : Nat), k ≤ m3 ∧ i = .int .i64 k ∧ TS w wr #[.slice A1 m1 c1, .slice A2 m2 c2, .slice A3 m3 c3, .slice A4 m4 c4, .slice A5 m5 c5, .slice A6 m6 c6, .slice A7 m7 c7, .slice A8 m8 c8] v N ∧ N ≤ 360 + k) (fun _ i _ => m3 - (RowKit.intOf i).toNat)
        case atStart => exact ⟨0, _, by omega, rfl, HT2.out, by omega⟩
        case round =>
          obtain ⟨k, N, hk, rfl, hts, hN⟩ := hrel
          have HTS := Lib.hid hts
          obtain ⟨V, hV⟩ : ∃ W, W = wr := ⟨_, rfl⟩
          subst hV
          clear hts g0 g1 g2 g3 g4 g5 g6 g7
          have g0 := HTS.out.box.cell 0
          have g1 := HTS.out.box.cell 1
          have g2 := HTS.out.box.cell 2
          have g3 := HTS.out.box.cell 3
          have g4 := HTS.out.box.cell 4
          have g5 := HTS.out.box.cell 5
          have g6 := HTS.out.box.cell 6
          have g7 := HTS.out.box.cell 7
          simp only [List.getElem?_toArray, List.getElem?_cons_zero, List.getElem?_cons_succ] at g0 g1 g2 g3 g4 g5 g6 g7
          by_cases hlt : k < m3
          · have hkI : (k : Int) < (m3 : Int) := by omega
            have hk0 : (0 : Int) ≤ (k : Int) := by omega
            obtain ⟨ad, cs, hA, had, hP, hcc⟩ := slC_cells (plain_len (f := markC) (m := 4) fun _ => rfl) (SlC.plain (HKP.out V HTS.out.bel) HQ3.out (fun _ _ h => h)) (i := k) (by have := E3.out; omega)
            subst hA
            generalize p.marks[k]'(by have := E3.out; omega) = x at *
            obtain ⟨sy, cl, sv, sa⟩ := x
            obtain rfl : cs = [.string sy, .int .u32 cl, .int .u32 sv, .int .u32 sa] := hP
            have e0 := hcc 0 _ rfl
            have e1 := hcc 1 _ rfl
            have e2 := hcc 2 _ rfl
            have e3 := hcc 3 _ rfl
            rw [Nat.add_zero] at e0
            rw [add_next ad (k * 4) 0] at e1
            rw [add_next ad (k * 4) 1] at e2
            rw [add_next ad (k * 4) 2] at e3
            clear hcc
            have hal := (Below.refl V.heap.size V).alloc (Nat.le_refl _) (.cells #[.string sy, .int .u32 cl, .int .u32 sv, .int .u32 sa] 76)
            have h2 := hal.alloc hal.size (.cells #[.string sy] 9)
            have hts2 := HTS.out.call h2
            have hd : ((V.alloc (.cells #[.string sy, .int .u32 cl, .int .u32 sv, .int .u32 sa] 76)).alloc (.cells #[.string sy] 9)).cell? ⟨V.heap.size + 1, 0, none⟩ = some (.string sy) := by
              have := (Blk.new (V.alloc (.cells #[.string sy, .int .u32 cl, .int .u32 sv, .int .u32 sa] 76)) 9 #[.string sy]).cell 0
              rw [World.size_alloc] at this
              simpa using this
            have HTS2 := Lib.hid hts2; have HD := Lib.hid hd
            clear hal h2 hts2 hd
            go_wp2_with (at_builtin; refine TS.append rfl _ _ rfl HTS2.out rfl _ _ sy rfl HD.out (by omega) ?_; intro v3 w3 hts3 hg3; have HTS3 := Lib.hid hts3; clear hts3 hg3)
            go_roundw
            case rel => exact ⟨k + 1, N + 1, by omega, by go_num, HTS3.out, by omega⟩
            case measure => simp [RowKit.intOf]; omega
          · obtain rfl : m3 = k := by omega
            have HT3 := HTS; have hN3 := hN
            clear HTS hlt hN
            go_wp2
            go_loopw [3, 83] (fun v i wr => ∃ (k N : Nat), k ≤ m4 ∧ i = .int .i64 k ∧ TS w wr #[.slice A1 m1 c1, .slice A2 m2 c2, .slice A3 m3 c3, .slice A4 m4 c4, .slice A5 m5 c5, .slice A6 m6 c6, .slice A7 m7 c7, .slice A8 m8 c8] v N ∧ N ≤ 420 + k) (fun _ i _ => m4 - (RowKit.intOf i).toNat)
            case atStart => exact ⟨0, _, by omega, rfl, HT3.out, by omega⟩
            case round =>
              obtain ⟨k, N, hk, rfl, hts, hN⟩ := hrel
              have HTS := Lib.hid hts
              obtain ⟨V, hV⟩ : ∃ W, W = wr := ⟨_, rfl⟩
              subst hV
              clear hts g0 g1 g2 g3 g4 g5 g6 g7
              have g0 := HTS.out.box.cell 0
              have g1 := HTS.out.box.cell 1
              have g2 := HTS.out.box.cell 2
              have g3 := HTS.out.box.cell 3
              have g4 := HTS.out.box.cell 4
              have g5 := HTS.out.box.cell 5
              have g6 := HTS.out.box.cell 6
              have g7 := HTS.out.box.cell 7
              simp only [List.getElem?_toArray, List.getElem?_cons_zero, List.getElem?_cons_succ] at g0 g1 g2 g3 g4 g5 g6 g7
              by_cases hlt : k < m4
              · have hkI : (k : Int) < (m4 : Int) := by omega
                have hk0 : (0 : Int) ≤ (k : Int) := by omega
                obtain ⟨ad, cs, hA, had, hP, hcc⟩ := slC_cells (plain_len (f := fun x : Nd => [Value.int .i64 x.1, Value.string x.2]) (m := 2) fun _ => rfl) (SlC.plain (HKP.out V HTS.out.bel) HQ4.out (fun _ _ h => h)) (i := k) (by have := E4.out; omega)
                subst hA
                generalize p.tree[k]'(by have := E4.out; omega) = x at *
                obtain ⟨pa, sy⟩ := x
                obtain rfl : cs = [.int .i64 pa, .string sy] := hP
                have e0 := hcc 0 _ rfl
                have e1 := hcc 1 _ rfl
                rw [Nat.add_zero] at e0
                rw [add_next ad (k * 2) 0] at e1
                clear hcc
                have hal := (Below.refl V.heap.size V).alloc (Nat.le_refl _) (.cells #[.int .i64 pa, .string sy] 78)
                have h2 := hal.alloc hal.size (.cells #[.string sy] 9)
                have hts2 := HTS.out.call h2
                have hd : ((V.alloc (.cells #[.int .i64 pa, .string sy] 78)).alloc (.cells #[.string sy] 9)).cell? ⟨V.heap.size + 1, 0, none⟩ = some (.string sy) := by
                  have := (Blk.new (V.alloc (.cells #[.int .i64 pa, .string sy] 78)) 9 #[.string sy]).cell 0
                  rw [World.size_alloc] at this
                  simpa using this
                have HTS2 := Lib.hid hts2; have HD := Lib.hid hd
                clear hal h2 hts2 hd
                go_wp2_with (at_builtin; refine TS.append rfl _ _ rfl HTS2.out rfl _ _ sy rfl HD.out (by omega) ?_; intro v3 w3 hts3 hg3; have HTS3 := Lib.hid hts3; clear hts3 hg3)
                go_roundw
                case rel => exact ⟨k + 1, N + 1, by omega, by go_num, HTS3.out, by omega⟩
                case measure => simp [RowKit.intOf]; omega
              · obtain rfl : m4 = k := by omega
                have HT4 := HTS; have hN4 := hN
                clear HTS hlt hN
                go_wp2
                have hN6 : N ≤ 600 := by omega
                go_loopw [97] (fun i wr => ∃ k : Nat, k ≤ m5 ∧ i = .int .i64 k ∧ TS w wr #[.slice A1 m1 c1, .slice A2 m2 c2, .slice A3 m3 c3, .slice A4 m4 c4, .slice A5 m5 c5, .slice A6 m6 c6, .slice A7 m7 c7, .slice A8 m8 c8] u3 N) (fun i _ => m5 - (RowKit.intOf i).toNat)
                case atStart => exact ⟨0, by omega, rfl, HT4.out⟩
                case round =>
                  obtain ⟨k, hk, rfl, hts⟩ := hrel
                  have HTS := Lib.hid hts
                  obtain ⟨V, hV⟩ : ∃ W, W = wr := ⟨_, rfl⟩
                  subst hV
                  clear hts g0 g1 g2 g3 g4 g5 g6 g7
                  have g0 := HTS.out.box.cell 0
                  have g1 := HTS.out.box.cell 1
                  have g2 := HTS.out.box.cell 2
                  have g3 := HTS.out.box.cell 3
                  have g4 := HTS.out.box.cell 4
                  have g5 := HTS.out.box.cell 5
                  have g6 := HTS.out.box.cell 6
                  have g7 := HTS.out.box.cell 7
                  simp only [List.getElem?_toArray, List.getElem?_cons_zero, List.getElem?_cons_succ] at g0 g1 g2 g3 g4 g5 g6 g7
                  by_cases hlt : k < m5
                  · have hkI : (k : Int) < (m5 : Int) := by omega
                    have hk0 : (0 : Int) ≤ (k : Int) := by omega
                    obtain ⟨ad, cs, hA, had, hP, hcc⟩ := slC_cells (by intro x cs h; exact law_len h) (SlC.plain (HKP.out V HTS.out.bel) HQ5.out (fun _ _ h => h.keep (HKP.out V HTS.out.bel))) (i := k) (by have := E5.out; omega)
                    subst hA
                    have h18 := law_len hP
                    have hone := law_one_ hP
                    have hcell : ∀ j u, cs[j]? = some u → V.cell? ((ad.add (k * 18)).add j) = some u := fun j u hu => by rw [add_add]; exact hcc j u hu
                    generalize p.laws[k]'(by have := E5.out; omega) = x at *
                    have hcall := lightLaw_any (V.alloc (.cells cs.toArray 62)) B x cs (hP.keep fun p hp => World.cell?_alloc_lt V _ p (by have := HBB.out; have := HTS.out.bel.size; omega))
                    have hblk := Blk.new V 62 cs.toArray
                    have hz := Blk.new V 62 zlaw.toArray
                    have hset := setRow_alloc V 62 zlaw.toArray cs.toArray
                    have hts2 := HTS.out.call ((Below.refl V.heap.size V).alloc (Nat.le_refl _) (.cells cs.toArray 62))
                    have HCALL := Lib.hid hcall; have HBLK := Lib.hid hblk; have HZ := Lib.hid hz; have HSET := Lib.hid hset; have H18 := Lib.hid h18; have HONE := Lib.hid hone; have HCELL := Lib.hid hcell; have HTS2 := Lib.hid hts2
                    clear hcall hblk hz hset h18 hone hcell hP hcc hts2
                    go_wp2_with (first | (refine law_load_at rfl _ rfl _ rfl cs H18.out HCELL.out ?_; simp only [Act.put, List.setIfInBounds_toArray, List.set_cons_zero, List.set_cons_succ]) | (refine law_store_ rfl _ _ rfl _ rfl cs zlaw rfl H18.out HONE.out HZ.out rfl ?_; rw [HSET.out]; simp only [Act.put, List.setIfInBounds_toArray, List.set_cons_zero, List.set_cons_succ]) | (refine law_load rfl _ rfl _ rfl _ H18.out HBLK.out ?_; simp only [Act.put, List.setIfInBounds_toArray, List.set_cons_zero, List.set_cons_succ]))
                    refine HCALL.out.mono ?_
                    rintro e w5 ⟨⟨b, rfl⟩, hb5⟩
                    have HTS5 := Lib.hid (HTS2.out.call hb5)
                    clear hb5 g0 g1 g2 g3 g4 g5 g6 g7
                    cases b with
                    | true =>
                      go_wp2
                      go_roundw
                      case rel => exact ⟨k + 1, by omega, by go_num, HTS5.out⟩
                      case measure => simp [RowKit.intOf]; omega
                    | false =>
                      go_wp2
                      go_ret
                      exact HNO.out _ HTS5.out.bel
                  · obtain rfl : m5 = k := by omega
                    obtain ⟨Af7, nf7, cf7, hvf, xs7, hxr7, fl7, hfl7, hfn7⟩ := forms_cells (SlC.plain (HKP.out V HTS.out.bel) HQ7.out (fun _ _ h => FormC.keep (HKP.out V HTS.out.bel) h))
                    injection hvf with hva hvb hvc
                    subst hva hvb hvc
                    rw [hfl7] at hxr7
                    have hcf := cloneF_any A7 m7 c7 (fl7.flatMap fmC) V B hxr7 (by intro u hu; obtain ⟨f, _, hf⟩ := List.mem_flatMap.1 hu; simp only [List.mem_cons, List.not_mem_nil, or_false] at hf; rcases hf with rfl | rfl <;> rfl) (Nat.le_trans HBB.out HTS.out.bel.size) (by omega)
                    have HCF := Lib.hid hcf; have HFN7 := Lib.hid hfn7
                    clear hcf hxr7 hfl7 hlt hfn7
                    go_wp2_with fail
                    refine HCF.out.mono ?_
                    rintro e w6 ⟨v6, rfl, ho6, hb6⟩
                    have HF6 : Hid (FS w w6 v6 m7) := Lib.hid ⟨⟨fl7, HFN7.out.symm, own_mono ho6 HTS.out.bel.size⟩⟩
                    have HT6 := Lib.hid (HTS.out.call hb6)
                    clear ho6 hb6 g0 g1 g2 g3 g4 g5 g6 g7
                    have g0 := HT6.out.box.cell 0
                    have g1 := HT6.out.box.cell 1
                    have g2 := HT6.out.box.cell 2
                    have g3 := HT6.out.box.cell 3
                    have g4 := HT6.out.box.cell 4
                    have g5 := HT6.out.box.cell 5
                    have g6 := HT6.out.box.cell 6
                    have g7 := HT6.out.box.cell 7
                    simp only [List.getElem?_toArray, List.getElem?_cons_zero, List.getElem?_cons_succ] at g0 g1 g2 g3 g4 g5 g6 g7
                    go_wp2
                    go_loopw [3, 12, 111] (fun v f i wr => ∃ (k N M : Nat), k ≤ m8 ∧ i = .int .i64 k ∧ TS w wr #[.slice A1 m1 c1, .slice A2 m2 c2, .slice A3 m3 c3, .slice A4 m4 c4, .slice A5 m5 c5, .slice A6 m6 c6, .slice A7 m7 c7, .slice A8 m8 c8] v N ∧ N ≤ 600 + k ∧ FS w wr f M ∧ M ≤ 300 + 100 * k) (fun _ _ i _ => m8 - (RowKit.intOf i).toNat)
                    case atStart => exact ⟨0, _, _, by omega, rfl, HT6.out, by omega, HF6.out, by omega⟩
                    case round =>
                      obtain ⟨k, N, M, hk, rfl, hts, hN, hfs, hM⟩ := hrel
                      have HTS := Lib.hid hts; have HFS := Lib.hid hfs
                      obtain ⟨V, hV⟩ : ∃ W, W = wr := ⟨_, rfl⟩
                      subst hV
                      clear hts hfs g0 g1 g2 g3 g4 g5 g6 g7
                      have g0 := HTS.out.box.cell 0
                      have g1 := HTS.out.box.cell 1
                      have g2 := HTS.out.box.cell 2
                      have g3 := HTS.out.box.cell 3
                      have g4 := HTS.out.box.cell 4
                      have g5 := HTS.out.box.cell 5
                      have g6 := HTS.out.box.cell 6
                      have g7 := HTS.out.box.cell 7
                      simp only [List.getElem?_toArray, List.getElem?_cons_zero, List.getElem?_cons_succ] at g0 g1 g2 g3 g4 g5 g6 g7
                      by_cases hlt : k < m8
                      · have hkI : (k : Int) < (m8 : Int) := by omega
                        have hk0 : (0 : Int) ≤ (k : Int) := by omega
                        obtain ⟨ad, cs, hA, had, hP, hcc⟩ := slC_cells en_len HQ8.out (i := k) (by have := E8.out; omega)
                        subst hA
                        generalize p.entries[k]'(by have := E8.out; omega) = x at *
                        obtain ⟨vx, rfl, hvx⟩ := hP
                        obtain ⟨sy, fx⟩ := x
                        obtain ⟨Ax, nx, cx, rfl, xs2, hxr, fl2, hfl2, hfn2⟩ := forms_cells (w := w) (B := B) hvx
                        have e0 := (HKP.out V HTS.out.bel _ (by rw [add_block_]; exact had)).trans (hcc 0 _ rfl)
                        have e1 := (HKP.out V HTS.out.bel _ (by rw [add_block_]; exact had)).trans (hcc 1 _ rfl)
                        rw [Nat.add_zero] at e0
                        rw [add_next ad (k * 2) 0] at e1
                        have hal := (Below.refl V.heap.size V).alloc (Nat.le_refl _) (.cells #[.string sy, .slice Ax nx cx] 84)
                        have hbl := Blk.new V 84 #[.string sy, .slice Ax nx cx]
                        have h2 := hal.alloc hal.size (.cells #[.string sy] 9)
                        have hts2 := HTS.out.call h2
                        have hfs2 := HFS.out.call h2
                        have hd : ((V.alloc (.cells #[.string sy, .slice Ax nx cx] 84)).alloc (.cells #[.string sy] 9)).cell? ⟨V.heap.size + 1, 0, none⟩ = some (.string sy) := by
                          have := (Blk.new (V.alloc (.cells #[.string sy, .slice Ax nx cx] 84)) 9 #[.string sy]).cell 0
                          rw [World.size_alloc] at this
                          simpa using this
                        have HTS2 := Lib.hid hts2; have HD := Lib.hid hd; have HFS2 := Lib.hid hfs2; have HBL := Lib.hid (hbl.alloc (.cells #[.string sy] 9)); have HXR := Lib.hid hxr; have HFL2 := Lib.hid hfl2
                        clear hal h2 hts2 hd hfs2 hbl hxr hfl2 hcc hvx hfn2
                        by_cases h100 : 100 < nx
                        · have h100I : (100 : Int) < (nx : Int) := by omega
                          go_wp2_with (at_builtin; go_loud (refine TS.append rfl _ _ rfl HTS2.out rfl _ _ sy rfl HD.out (by omega) ?_; intro v3 w3 hts3 hg3; have hfs3 := HFS2.out.grown HTS2.out hg3; have hbl3 := TS.keeps HTS2.out hg3 HBL.out (by decide); have d0 := hbl3.cell 0; have d1 := hbl3.cell 1; simp only [List.getElem?_toArray, List.getElem?_cons_zero, List.getElem?_cons_succ] at d0 d1; have HTS3 := Lib.hid hts3; have HFS3 := Lib.hid hfs3; clear hts3 hg3 hfs3 hbl3))
                          go_ret
                          exact HYES.out _ _ HTS3.out.bel
                        · have h100I : ¬ (100 : Int) < (nx : Int) := by omega
                          go_wp2_with (first | (at_builtin; refine TS.append rfl _ _ rfl HTS2.out rfl _ _ sy rfl HD.out (by omega) ?_; intro v3 w3 hts3 hg3; have hfs3 := HFS2.out.grown HTS2.out hg3; have hbl3 := TS.keeps HTS2.out hg3 HBL.out (by decide); have d0 := hbl3.cell 0; have d1 := hbl3.cell 1; simp only [List.getElem?_toArray, List.getElem?_cons_zero, List.getElem?_cons_succ] at d0 d1; have HTS3 := Lib.hid hts3; have HFS3 := Lib.hid hfs3; clear hts3 hg3 hfs3 hbl3) | (at_builtin; refine FS.append rfl _ _ rfl HFS3.out HTS3.out rfl _ _ _ fl2 rfl (by rw [← HFL2.out]; exact HXR.out.below (HTS3.out.bel.mono HBB.out) |>.more (Nat.le_trans HBB.out HTS3.out.bel.size)) (by omega) ?_; intro v4 w4 hfs4 hts4; have HFS4 := Lib.hid hfs4; have HTS4 := Lib.hid hts4; clear hfs4 hts4))
                          go_roundw
                          case rel => exact ⟨k + 1, N + 1, M + nx, by omega, by go_num, HTS4.out, by omega, HFS4.out, by omega⟩
                          case measure => simp [RowKit.intOf]; omega
                      · obtain rfl : m8 = k := by omega
                        obtain ⟨ss, hss, hso⟩ := HTS.out.own
                        obtain ⟨At, ct, rfl, hx1, hx2⟩ := ownsRow_form hso
                        obtain ⟨fl, hfl, hfo⟩ := HFS.out.own
                        obtain ⟨Af, cf, rfl, hy1, hy2⟩ := ownsRow_form hfo
                        have HBT := Lib.hid HTS.out.bel; have HFO := Lib.hid hfo
                        have hls := longS_any At N ct V.heap.size ss V (Reads.of_own hso) (Nat.le_refl _) (by unfold maxLen; omega)
                        have HLS := Lib.hid hls
                        clear hls hso hfo hlt
                        go_wp2_with fail
                        refine (HLS.out).mono ?_
                        rintro e wa ⟨⟨b, rfl⟩, hba⟩
                        have HBA := Lib.hid (HBT.out.trans (hba.mono HBT.out.size)); have HFA := Lib.hid (own_below' HFO.out hba)
                        clear hba
                        cases b with
                        | true =>
                          go_wp2
                          go_ret
                          exact HYES.out _ _ HBA.out
                        | false =>
                          by_cases hM8 : M ≤ 8000
                          case neg =>
                            have hMI : ¬ (M : Int) ≤ 8000 := by omega
                            go_wp2
                            go_ret
                            exact HYES.out _ _ HBA.out
                          have hMI : (M : Int) ≤ 8000 := by omega
                          have hlf := longF_any Af M cf wa.heap.size fl wa (Reads.of_own HFA.out) (Nat.le_refl _) (by unfold maxLen; omega)
                          have HLF := Lib.hid hlf
                          clear hlf
                          go_wp2_with fail
                          refine (HLF.out).mono ?_
                          rintro e wb ⟨⟨b2, rfl⟩, hbb⟩
                          have HBB2 := Lib.hid (HBA.out.trans (hbb.mono HBA.out.size))
                          clear hbb
                          go_wp2
                          go_ret
                          exact HYES.out _ _ HBB2.out
end Go.Proofs.YtmepaeahchiglaaGreatDoor
