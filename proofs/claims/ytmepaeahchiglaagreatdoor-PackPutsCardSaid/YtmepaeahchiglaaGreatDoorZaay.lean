/-
  layer 43: the reference's Put of a project. Conditions: what can be read. (Printed by pjrput.py.)
-/
import Derived.Test.YtmepaeahchiglaaGreatDoorZaax
namespace Go.Proofs.YtmepaeahchiglaaGreatDoor
open Go.RowKit Go.Lib

/-- Bytes behind a full list that may be a constant's. -/
theorem append_fullL {ops : Array Oper} {rest : List Oper} {o : Oper} {a : Act} {w : World} {Q : Exit → Act → World → Prop} (hgd : o.guard = none) (s x : Operand) (t : TypeId)
    (ho : o.op = .call { callee := .builtin .append, args := #[s, x], argTypes := #[t, t] })
    (base : Nat) (i : TypeInfo) (ht : Tryz.prog.underlying t = some (.slice 5)) (hi : Tryz.prog.info? 5 = some i) (hz : i.zero = some (.int .u8 0)) (hsize : i.size = 1) (hby : i.bytes = 1)
    (b : Nat) (xs : List Nat) (fz : Nat × Nat) (hs : a.eval s = .slice (some ⟨b, 0, none⟩) xs.length xs.length) (hb : w.heap[b]? = some (.cells (xs.map bv).toArray 5 fz))
    (B : Nat) (A : Option Addr) (c : Nat) (ys : List Nat) (hx : a.eval x = .slice A ys.length c) (ho2 : w.ownsRow B 5 1 (.slice A ys.length c) ys.length (ys.map bv)) (h1 : 1 ≤ ys.length) (hl : xs.length + ys.length ≤ 140737488355328) (hbase : base ≤ w.heap.size)
    (h : ∀ v' w', w'.ownsRow base 5 1 v' (xs ++ ys).length ((xs ++ ys).map bv) → w.grownBy w' none → wpList Tryz.prog ops Q rest (a.put o.dst v') w') : wpList Tryz.prog ops Q (o :: rest) a w := by
  refine wpList_plain hgd fun _ hK => ?_
  have hold : ∀ j u, (xs.map bv)[j]? = some u → w.cell? ((⟨b, 0, none⟩ : Addr).add j) = some u := by
    intro j u hu
    rw [add_at, cell_of_row w _ j _ 5 fz hb]
    simpa using hu
  obtain ⟨hl2, ad, rfl, -, hnew⟩ : (ys.map bv).length = ys.length * 1 ∧ ∃ ad, A = some ad ∧ ad.block < w.heap.size ∧ ∀ j u, (ys.map bv)[j]? = some u → w.cell? (ad.add j) = some u := by
    have hr := Reads.of_own ho2
    exact ⟨hr.1, hr.2 h1⟩
  have hrun := run_append_grow (P := Tryz.prog) w t o.type 5 i (.int .u8 0) ht hi hz ⟨b, 0, none⟩ xs.length xs.length (xs.map bv) (by rw [hsize]; simp) hold ad ys.length c (ys.map bv) (by rw [hsize]; simp) hnew (by omega) (by omega) (by rw [hby]; exact growslice_fits (by omega) (by omega))
  have hge := grownCap_ge w (xs.length + ys.length) xs.length 5
  have hcm2 : grownCap w (xs.length + ys.length) xs.length 5 ≤ maxLen := grownCap_le_maxLen w (xs.length + ys.length) xs.length 5 (by unfold maxLen; omega)
  have hlen : (xs.map bv ++ ys.map bv).length = (xs.length + ys.length) * 1 := by simp
  unfold Oper.wp execOp
  simp only [ho, resolve, invoke, builtin, Sem.run_bind, Sem.run_pure, Result.andThen_ok, List.map_toArray, List.map_cons, List.map_nil, hs, hx, hrun]
  refine hK _ _ (h _ _ ?_ ⟨rfl, rfl, rfl, by simp, fun k hk _ => Below.heap_alloc w.drew _ k hk⟩)
  rw [List.length_append, List.map_append]
  refine ⟨hlen, .inr ⟨w.heap.size, _, _, rfl, hbase, heap_alloc_new w.drew _, hge, hcm2, ?_, ?_⟩⟩
  · have hz1 : (Value.int IntKind.u8 0).cells.size = 1 := rfl
    simp only [Array.size_append, List.size_toArray, size_zeroCells, hz1, List.length_map]
    omega
  · simp only [Array.toList_append]
    rw [← hlen]
    exact List.take_left
theorem namesB_len {p : Pj} (h : PjOk p) : (allB textB p.feats ++ (allB nmdB p.sounds ++ allB mkdB p.marks)).length ≤ 10000000 ∧ 1 ≤ (allB textB p.feats ++ (allB nmdB p.sounds ++ allB mkdB p.marks)).length := by
  obtain ⟨l1, l2, l3, -⟩ := h.lens
  have hn : 1 ≤ (numB p.feats.length).length := by
    show 1 ≤ (numK 5 p.feats.length).length
    unfold numK
    split <;> simp
  have e : (allB textB p.feats).length = (numB p.feats.length).length + (p.feats.flatMap textB).length := by unfold allB; rw [List.length_append]
  rw [List.length_append, List.length_append]
  omega
theorem histB_len {p : Pj} (h : PjOk p) : (histB p.tree p.laws p.on).length ≤ 300000000 := by
  obtain ⟨l1, l2, l3, l4, l5, l6, l7, l8⟩ := h.lens
  have hf := flatB_mem (put := allB intB) (m := 6000) (l := p.on) l6
  have := h.n6
  unfold histB
  rw [List.length_append, List.length_append]
  omega
theorem enB_len2 {p : Pj} (h : PjOk p) : ∀ x ∈ p.entries, (enB x).length ≤ 1100000 := by
  intro x hx
  obtain ⟨h1, h2, h3⟩ := h.o8 x hx
  have e1 := textB_len x.gloss
  have e2 := allB_len (put := formB) (m := 10010) (l := x.forms) fun f hf => formB_len1 (h3 f hf).1
  unfold enB
  rw [List.length_append]
  omega
theorem bodyB_eq (p : Pj) : bodyB p = magB ++ (allB textB p.feats ++ (allB nmdB p.sounds ++ allB mkdB p.marks)) ++ histB p.tree p.laws p.on ++ allB formB p.protos ++ allB enB p.entries := by
  unfold bodyB projB histB
  simp only [List.append_assoc]
set_option linter.unusedSimpArgs false in
set_option linter.unusedVariables false in
set_option maxRecDepth 20000 in
set_option maxHeartbeats 8000000 in
theorem refPut_any (w : World) (B : Nat) (p : Pj) (cs : List Value) (hp : ProjC w B p cs) (hB : B ≤ w.heap.size) (hr : PjRd p) (h32 : ∀ l ∈ p.laws, ∀ x ∈ l.outs, is32 x.clear ∧ ok32 x.set ∧ is32 x.take)
    (hck : ∀ (W : World) (B : Nat) (cs : List Value), ProjC W B p cs → B ≤ W.heap.size → Calls Tryz.prog 38 #[.agg cs.toArray] W fun e w' => e = .returned (.int .i64 (projE p)) ∧ Below W.heap.size W w') :
    Calls Tryz.prog 11 #[.agg cs.toArray] w (GivesBE w (putP p) (projE p)) := by
  obtain ⟨i0, hi, hz0, hz1, hz2⟩ := info_parts (show (Tryz.prog.info? 5).map (fun i => (i.zero, i.size, i.bytes)) = some (some (.int .u8 0), 1, 1) by kernel_rfl)
  obtain ⟨v1, v2, v3, v4, v5, v6, v7, v8, rfl, q1, q2, q3, q4, q5, q6, q7, q8⟩ := hp
  have hp : ProjC w B p [v1, v2, v3, v4, v5, v6, v7, v8] := ⟨_, _, _, _, _, _, _, _, rfl, q1, q2, q3, q4, q5, q6, q7, q8⟩
  obtain ⟨A1, m1, c1, rfl, e1⟩ := q1.form
  obtain ⟨A2, m2, c2, rfl, e2⟩ := q2.form
  obtain ⟨A3, m3, c3, rfl, e3⟩ := q3.form
  obtain ⟨A4, m4, c4, rfl, e4⟩ := q4.form
  obtain ⟨A5, m5, c5, rfl, e5⟩ := q5.form
  obtain ⟨A6, m6, c6, rfl, e6⟩ := q6.form
  obtain ⟨A7, m7, c7, rfl, e7⟩ := q7.form
  obtain ⟨A8, m8, c8, rfl, e8⟩ := q8.form
  have hm8 := q8.len.2
  unfold maxLen at hm8
  obtain ⟨o, ho⟩ : ∃ o, Obj.cells #[.slice A1 m1 c1, .slice A2 m2 c2, .slice A3 m3 c3, .slice A4 m4 c4, .slice A5 m5 c5, .slice A6 m6 c6, .slice A7 m7 c7, .slice A8 m8 c8] 33 = o := ⟨_, rfl⟩
  have hb0 := (Below.refl w.heap.size w).alloc (Nat.le_refl _) o
  have hk0 : Blk (w.alloc o) w.heap.size 33 #[.slice A1 m1 c1, .slice A2 m2 c2, .slice A3 m3 c3, .slice A4 m4 c4, .slice A5 m5 c5, .slice A6 m6 c6, .slice A7 m7 c7, .slice A8 m8 c8] := by rw [← ho]; exact Blk.new w _ _
  have hle1 : w.heap.size ≤ (w.alloc o).heap.size := by rw [World.size_alloc]; omega
  have hlt1 : w.heap.size < (w.alloc o).heap.size := by rw [World.size_alloc]; omega
  have hkp := fun (W : World) (hW : Below w.heap.size w W) => fun (q : Addr) (hq : q.block < B) => hW.cell (p := q) (Nat.lt_of_lt_of_le hq hB)
  have hc0 := hck (w.alloc o) B _ (ProjC.keep (hkp _ hb0) hp) (Nat.le_trans hB hle1)
  have hnm := fun (W : World) (hW : Below w.heap.size w W) (hok : PjOk p) => refNames_any W B p _ (ProjC.keep (hkp _ hW) hp) (Nat.le_trans hB hW.size) hok
  have hhi := fun (W : World) (hW : Below w.heap.size w W) (hok : PjOk p) => refHistory_any W B p _ _ _ (SlC.plain (hkp W hW) q4 (fun _ _ h => h)) (SlC.plain (hkp W hW) q5 (fun _ _ h => h.keep (hkp W hW))) (SlC.plain (hkp W hW) q6 (fun _ _ h => OnC.keep (hkp W hW) h)) (Nat.le_trans hB hW.size) hok
  have hfo := fun (W : World) (hW : Below w.heap.size w W) (hok : PjOk p) => refForms_any _ B p.protos W (SlC.plain (hkp W hW) q7 (fun _ _ h => FormC.keep (hkp W hW) h)) (Nat.le_trans hB hW.size) hok.n7 hok.o7
  have hpo := fun h => PjOk.of (p := p) h hr h32
  obtain ⟨ys, hys⟩ : ∃ ys, putP p = ys := ⟨_, rfl⟩
  rw [hys]
  unfold putP at hys
  obtain ⟨x, hx⟩ : ∃ x, projE p = x := ⟨_, rfl⟩
  rw [hx] at hc0 hys hpo ⊢
  have HO := Lib.hid ho; have HB0 := Lib.hid hb0; have HK0 := Lib.hid hk0; have HKP := Lib.hid hkp; have HYS := Lib.hid hys; have HC0 := Lib.hid hc0; have HNM := Lib.hid hnm; have HHI := Lib.hid hhi; have HFO := Lib.hid hfo; have HPO := Lib.hid hpo; have HBB := Lib.hid hB
  have HQ8 := Lib.hid q8; have HN8 := Lib.hid e8
  have k0 := hk0.cell 0
  have k1 := hk0.cell 1
  have k2 := hk0.cell 2
  have k3 := hk0.cell 3
  have k4 := hk0.cell 4
  have k5 := hk0.cell 5
  have k6 := hk0.cell 6
  have k7 := hk0.cell 7
  simp only [List.getElem?_toArray, List.getElem?_cons_zero, List.getElem?_cons_succ] at k0 k1 k2 k3 k4 k5 k6 k7
  clear q1 q2 q3 q4 q5 q6 q7 q8 e1 e2 e3 e4 e5 e6 e7 e8 ho hb0 hk0 hkp hys hc0 hnm hhi hfo hpo hx hp hr h32 hck hB
  unfold GivesBE
  go_enter Tryz.func11, Tryz.ntmps11
  go_wp2_with (rw [HO.out])
  refine HC0.out.mono ?_
  rintro e w1 ⟨rfl, hb1⟩
  have HB1 := Lib.hid (HB0.out.trans (hb1.mono hle1)); have HK1 := Lib.hid (HK0.out.below hb1 hlt1)
  have hs1 : w.heap.size < w1.heap.size := Nat.lt_of_lt_of_le hlt1 hb1.size
  clear hb1 k0 k1 k2 k3 k4 k5 k6 k7 HC0
  by_cases hz : x = 0
  case neg =>
    have hzI : (x != (0 : Int)) = true := by rw [bne_iff_ne]; exact hz
    have hys := HYS.out
    rw [if_neg hz] at hys
    subst hys
    clear hz
    go_wp2
    go_ret2
    exact ⟨_, rfl, World.ownsRow_nil _ _ _ _, HB1.out⟩
  have HOK := Lib.hid (HPO.out hz)
  have hys := HYS.out
  rw [if_pos hz] at hys
  subst hz
  have HYS := Lib.hid hys
  clear hys
  have hb2 := HB1.out.alloc HB1.out.size (.cells #[.int .u8 97, .int .u8 98, .int .u8 108, .int .u8 49] 5 (4, 5))
  have hk2 := HK1.out.alloc (.cells #[.int .u8 97, .int .u8 98, .int .u8 108, .int .u8 49] 5 (4, 5))
  have hmag : (w1.alloc (.cells #[.int .u8 97, .int .u8 98, .int .u8 108, .int .u8 49] 5 (4, 5))).heap[w1.heap.size]? = some (.cells (magB.map bv).toArray 5 (4, 5)) := heap_alloc_new w1 _
  have hsz2 : (w1.alloc (.cells #[.int .u8 97, .int .u8 98, .int .u8 108, .int .u8 49] 5 (4, 5))).heap.size = w1.heap.size + 1 := World.size_alloc _ _
  obtain ⟨w2, hw2⟩ : ∃ W, (w1.alloc (.cells #[.int .u8 97, .int .u8 98, .int .u8 108, .int .u8 49] 5 (4, 5))) = W := ⟨_, rfl⟩
  rw [hw2] at hb2 hk2 hmag hsz2
  have hcall := HNM.out w2 hb2 HOK.out
  have hnl := namesB_len HOK.out
  have hhl := histB_len HOK.out
  have hbe := bodyB_eq p
  obtain ⟨nb, hnb⟩ : ∃ b, allB textB p.feats ++ (allB nmdB p.sounds ++ allB mkdB p.marks) = b := ⟨_, rfl⟩
  rw [hnb] at hcall hnl hbe
  obtain ⟨hn1, hn2⟩ := hnl
  have HBE := Lib.hid hbe
  have HCALL := Lib.hid hcall; have HW2 := Lib.hid hw2; have HB2 := Lib.hid hb2; have HMAG := Lib.hid hmag; have HK2 := Lib.hid hk2
  have g0 := HK1.out.cell 0
  have k0 := hk2.cell 0
  have g1 := HK1.out.cell 1
  have k1 := hk2.cell 1
  have g2 := HK1.out.cell 2
  have k2 := hk2.cell 2
  have g3 := HK1.out.cell 3
  have k3 := hk2.cell 3
  have g4 := HK1.out.cell 4
  have k4 := hk2.cell 4
  have g5 := HK1.out.cell 5
  have k5 := hk2.cell 5
  have g6 := HK1.out.cell 6
  have k6 := hk2.cell 6
  have g7 := HK1.out.cell 7
  have k7 := hk2.cell 7
  simp only [List.getElem?_toArray, List.getElem?_cons_zero, List.getElem?_cons_succ] at k0 k1 k2 k3 k4 k5 k6 k7 g0 g1 g2 g3 g4 g5 g6 g7
  have hzI : ((0 : Int) != 0) = false := rfl
  have kc := fun (W : World) (C : Array Value) (n c : Nat) => Lib.run_convert_bytes_const (P := Tryz.prog) W 36 5 C n c Tryz.underlying36 Tryz.underlying5
  clear hb2 hcall hw2 hk2 hmag hnb hbe HNM HPO
  go_wp2_with (rw [HW2.out])
  refine HCALL.out.mono ?_
  rintro e w3 ⟨v3, rfl, ho3, hb3⟩
  obtain ⟨A9, c9, rfl, _, _⟩ := ownsRow_form ho3
  have hmag3 := (hb3.block w1.heap.size (by omega)).trans HMAG.out
  have HMAG3 := Lib.hid hmag3; have HO3 := Lib.hid ho3
  have HB3 := Lib.hid (HB2.out.trans (hb3.mono (by omega))); have HK3 := Lib.hid (HK2.out.below hb3 (by omega))
  have hs3 := hb3.size
  have k30 := HK3.out.cell 3
  clear hmag3 ho3 hb3 k0 k1 k2 k3 k4 k5 k6 k7 g0 g1 g2 g3 g4 g5 g6 g7 HCALL kc k30
  have hml : magB.length = 4 := rfl
  go_wp2_with (at_builtin; refine append_fullL rfl _ _ 36 rfl w.heap.size i0 Tryz.underlying36 hi hz0 hz1 hz2 w1.heap.size magB (4, 5) rfl HMAG3.out _ _ _ nb rfl HO3.out hn2 (by omega) (by omega) ?_; intro v4 w4 ho4 hg4; have hst : St w w4 33 #[.slice A1 m1 c1, .slice A2 m2 c2, .slice A3 m3 c3, .slice A4 m4 c4, .slice A5 m5 c5, .slice A6 m6 c6, .slice A7 m7 c7, .slice A8 m8 c8] v4 (magB ++ nb) := ⟨ho4, HK3.out.grown hg4 (fun e => by simp at e), HB3.out.grown hg4 (by omega) (fun g hg => by simp at hg)⟩; have k0 := hst.box.cell 0; have k1 := hst.box.cell 1; have k2 := hst.box.cell 2; have k3 := hst.box.cell 3; have k4 := hst.box.cell 4; have k5 := hst.box.cell 5; have k6 := hst.box.cell 6; have k7 := hst.box.cell 7; simp only [List.getElem?_toArray, List.getElem?_cons_zero, List.getElem?_cons_succ] at k0 k1 k2 k3 k4 k5 k6 k7; have HST := Lib.hid hst; clear ho4 hg4 hst)
  obtain ⟨z0, hz0⟩ : ∃ z, magB ++ nb = z := ⟨_, rfl⟩
  have hlz0 : z0.length ≤ 10000004 := by rw [← hz0, List.length_append]; omega
  have hst := HST.out
  have hbe := HBE.out
  rw [hz0] at hst hbe
  have HST := Lib.hid hst; have HBE := Lib.hid hbe
  clear hst hz0 hbe
  obtain ⟨hb, hhb⟩ : ∃ b, histB p.tree p.laws p.on = b := ⟨_, rfl⟩
  have hhi := HHI.out w4 HST.out.bel HOK.out
  have hbe := HBE.out
  rw [hhb] at hhi hhl hbe
  have HHI2 := Lib.hid hhi; have HBE := Lib.hid hbe
  clear hhi hhb hbe
  have hc1 := HHI2.out
  have HC1 := Lib.hid hc1
  clear hc1
  go_wp2_with (fail)
  refine HC1.out.mono ?_
  rintro e w1 ⟨v1, rfl, ho1, hb1⟩
  obtain ⟨Aw1, cw1, rfl, _, _⟩ := ownsRow_form ho1
  have HST1 := Lib.hid (HST.out.call hb1); have HO1 := Lib.hid ho1
  clear ho1 hb1 k0 k1 k2 k3 k4 k5 k6 k7
  go_wp2_with (at_builtin; refine St.append rfl _ _ rfl HST1.out (by decide) rfl _ _ _ _ _ rfl HO1.out (by omega) ?_; intro x1 W1 hs1; have k0 := hs1.box.cell 0; have k1 := hs1.box.cell 1; have k2 := hs1.box.cell 2; have k3 := hs1.box.cell 3; have k4 := hs1.box.cell 4; have k5 := hs1.box.cell 5; have k6 := hs1.box.cell 6; have k7 := hs1.box.cell 7; simp only [List.getElem?_toArray, List.getElem?_cons_zero, List.getElem?_cons_succ] at k0 k1 k2 k3 k4 k5 k6 k7; have HS1 := Lib.hid hs1; clear hs1)
  obtain ⟨z1, hz1⟩ : ∃ z, z0 ++ hb = z := ⟨_, rfl⟩
  have hlz1 : z1.length ≤ 400000000 := by rw [← hz1, List.length_append]; omega
  have hst := HS1.out
  have hbe := HBE.out
  rw [hz1] at hst hbe
  have HST1 := Lib.hid hst; have HBE := Lib.hid hbe
  clear hst hz1 hbe
  obtain ⟨fb, hfb⟩ : ∃ b, allB formB p.protos = b := ⟨_, rfl⟩
  have hfo := HFO.out W1 HST1.out.bel HOK.out
  have hbe := HBE.out
  have hfl := HOK.out.lens.2.2.2.2.2.2.1
  rw [hfb] at hfo hfl hbe
  have HFO2 := Lib.hid hfo; have HBE := Lib.hid hbe
  clear hfo hfb hbe
  have hc2 := HFO2.out
  have HC2 := Lib.hid hc2
  clear hc2
  go_wp2_with (fail)
  refine HC2.out.mono ?_
  rintro e w2 ⟨v2, rfl, ho2, hb2⟩
  obtain ⟨Aw2, cw2, rfl, _, _⟩ := ownsRow_form ho2
  have HST2 := Lib.hid (HST1.out.call hb2); have HO2 := Lib.hid ho2
  clear ho2 hb2 k0 k1 k2 k3 k4 k5 k6 k7
  go_wp2_with (at_builtin; refine St.append rfl _ _ rfl HST2.out (by decide) rfl _ _ _ _ _ rfl HO2.out (by omega) ?_; intro x2 W2 hs2; have k0 := hs2.box.cell 0; have k1 := hs2.box.cell 1; have k2 := hs2.box.cell 2; have k3 := hs2.box.cell 3; have k4 := hs2.box.cell 4; have k5 := hs2.box.cell 5; have k6 := hs2.box.cell 6; have k7 := hs2.box.cell 7; simp only [List.getElem?_toArray, List.getElem?_cons_zero, List.getElem?_cons_succ] at k0 k1 k2 k3 k4 k5 k6 k7; have HS2 := Lib.hid hs2; clear hs2)
  obtain ⟨z2, hz2'⟩ : ∃ z, z1 ++ fb = z := ⟨_, rfl⟩
  have hlz2 : z2.length ≤ 500000000 := by rw [← hz2', List.length_append]; omega
  have hst := HS2.out
  have hbe := HBE.out
  rw [hz2'] at hst hbe
  have HST2' := Lib.hid hst; have HBE := Lib.hid hbe
  clear hst hz2' hbe
  have h1000 : m8 ≤ 1000 := by have := HOK.out.n8; have := HN8.out; omega
  have hl0 := numB_len m8
  have hc3 := refCount_any m8 W2 (by omega)
  have HC3 := Lib.hid hc3
  clear hc3
  go_wp2_with (fail)
  refine HC3.out.mono ?_
  rintro e w3 ⟨v3, rfl, ho3, hb3⟩
  obtain ⟨Aw3, cw3, rfl, _, _⟩ := ownsRow_form ho3
  have HST3 := Lib.hid (HST2'.out.call hb3); have HO3 := Lib.hid ho3
  clear ho3 hb3 k0 k1 k2 k3 k4 k5 k6 k7
  go_wp2_with (at_builtin; refine St.append rfl _ _ rfl HST3.out (by decide) rfl _ _ _ _ _ rfl HO3.out (by omega) ?_; intro x3 W3 hs3; have k0 := hs3.box.cell 0; have k1 := hs3.box.cell 1; have k2 := hs3.box.cell 2; have k3 := hs3.box.cell 3; have k4 := hs3.box.cell 4; have k5 := hs3.box.cell 5; have k6 := hs3.box.cell 6; have k7 := hs3.box.cell 7; simp only [List.getElem?_toArray, List.getElem?_cons_zero, List.getElem?_cons_succ] at k0 k1 k2 k3 k4 k5 k6 k7; have HS3 := Lib.hid hs3; clear hs3)
  obtain ⟨z3, hz3⟩ : ∃ z, z2 ++ numB m8 = z := ⟨_, rfl⟩
  have hlz3 : z3.length ≤ 500000010 := by rw [← hz3, List.length_append]; omega
  have hst := HS3.out
  rw [hz3] at hst
  have HST3' := Lib.hid hst; have HZ3 := Lib.hid hz3
  clear hst hz3
  go_wp2
  have HP4 := Lib.hid (part_len (put := enB) (l := p.entries) (m := 1100000) (enB_len2 HOK.out))
  clear k0 k1 k2 k3 k4 k5 k6 k7
  go_loopw [5, 6] (fun v i wr => ∃ k : Nat, k ≤ m8 ∧ i = .int .i64 k ∧ St w wr 33 #[.slice A1 m1 c1, .slice A2 m2 c2, .slice A3 m3 c3, .slice A4 m4 c4, .slice A5 m5 c5, .slice A6 m6 c6, .slice A7 m7 c7, .slice A8 m8 c8] v (z3 ++ (p.entries.take k).flatMap enB)) (fun _ i _ => m8 - (RowKit.intOf i).toNat)
  case atStart => exact ⟨0, by omega, rfl, by simpa using HST3'.out⟩
  case round =>
    obtain ⟨j4, hk4, rfl, hst⟩ := hrel
    obtain ⟨V4, hV4⟩ : ∃ W, W = wr := ⟨_, rfl⟩
    subst hV4
    have k0 := hst.box.cell 0
    have k1 := hst.box.cell 1
    have k2 := hst.box.cell 2
    have k3 := hst.box.cell 3
    have k4 := hst.box.cell 4
    have k5 := hst.box.cell 5
    have k6 := hst.box.cell 6
    have k7 := hst.box.cell 7
    simp only [List.getElem?_toArray, List.getElem?_cons_zero, List.getElem?_cons_succ] at k0 k1 k2 k3 k4 k5 k6 k7
    have HR4 := Lib.hid hst
    clear hst
    by_cases hlt4 : j4 < m8
    · have hkl4 : j4 < p.entries.length := by have := HN8.out; omega
      have hkI4 : (j4 : Int) < (m8 : Int) := by omega
      have hk04 : (0 : Int) ≤ (j4 : Int) := by omega
      obtain ⟨ad4, cs4, hA, had4, hP4, hcc4⟩ := slC_cells en_len HQ8.out hkl4
      have hadb4 : ∀ m, (ad4.add m).block < B := fun m => by rw [add_block_]; exact had4
      have hlen4 : (z3 ++ (p.entries.take j4).flatMap enB).length ≤ 2000000000 := by
        have h1 := HP4.out j4
        have h2 := HN8.out
        rw [List.length_append]
        omega
      have hts := allB_next enB p.entries z3 j4 hkl4
      obtain ⟨y4, hy⟩ : ∃ y, z3 ++ (p.entries.take j4).flatMap enB = y := ⟨_, rfl⟩
      have hr := HR4.out
      rw [hy] at hts hlen4 hr
      have HRR4 := Lib.hid hr
      clear HR4 hr hy
      subst hA
      have hokx := HOK.out.o8 _ (List.getElem_mem hkl4)
      generalize p.entries[j4] = x at *
      obtain ⟨vx, rfl, hvx⟩ := hP4
      obtain ⟨Ax, nx, cx, rfl, ex⟩ := hvx.form
      obtain ⟨gl, fl⟩ := x
      simp only [] at hokx hvx ex hcc4
      have e4_0 := hcc4 0 _ rfl
      have e4_1 := hcc4 1 _ rfl
      rw [Nat.add_zero] at e4_0
      rw [add_next ad4 (j4 * 2) 0] at e4_1
      clear hcc4
      have f0 := (HKP.out V4 HRR4.out.bel (ad4.add (j4 * 2)) (hadb4 _)).trans e4_0
      have f1 := (HKP.out V4 HRR4.out.bel ⟨(ad4.add (j4 * 2)).block, _, none⟩ (hadb4 _)).trans e4_1
      have HTS := Lib.hid hts
      clear hts
      obtain ⟨hg1, hg2, hg3⟩ := hokx
      have hl1 := textB_len gl
      have hl2 := allB_len (put := formB) (m := 10010) (l := fl) fun f hf => formB_len1 (hg3 f hf).1
      have hl3 : (allB formB fl).length ≤ 1001005 := by omega
      have HG3 := Lib.hid hg3; have HVX := Lib.hid hvx
      clear hl2 hg3 hvx ex
      have hc5 := refText_any gl V4 (by omega)
      have HC5 := Lib.hid hc5
      clear hc5
      go_wp2_with (fail)
      refine HC5.out.mono ?_
      rintro e w5 ⟨v5, rfl, ho5, hb5⟩
      obtain ⟨Aw5, cw5, rfl, _, _⟩ := ownsRow_form ho5
      have HST5 := Lib.hid (HRR4.out.call hb5); have HO5 := Lib.hid ho5
      clear ho5 hb5 k0 k1 k2 k3 k4 k5 k6 k7 f0 f1
      go_wp2_with (at_builtin; refine St.append rfl _ _ rfl HST5.out (by decide) rfl _ _ _ _ _ rfl HO5.out (by omega) ?_; intro x5 W5 hs5; have k0 := hs5.box.cell 0; have k1 := hs5.box.cell 1; have k2 := hs5.box.cell 2; have k3 := hs5.box.cell 3; have k4 := hs5.box.cell 4; have k5 := hs5.box.cell 5; have k6 := hs5.box.cell 6; have k7 := hs5.box.cell 7; simp only [List.getElem?_toArray, List.getElem?_cons_zero, List.getElem?_cons_succ] at k0 k1 k2 k3 k4 k5 k6 k7; have f0 := (HKP.out W5 hs5.bel (ad4.add (j4 * 2)) (hadb4 _)).trans e4_0; have f1 := (HKP.out W5 hs5.bel ⟨(ad4.add (j4 * 2)).block, _, none⟩ (hadb4 _)).trans e4_1; have HS5 := Lib.hid hs5; clear hs5)
      have hff := refForms_any _ B fl W5 (SlC.plain (HKP.out W5 HS5.out.bel) HVX.out (fun _ _ h => FormC.keep (HKP.out W5 HS5.out.bel) h)) (Nat.le_trans HBB.out HS5.out.bel.size) (by omega) HG3.out
      obtain ⟨fz, hfz⟩ : ∃ b, allB formB fl = b := ⟨_, rfl⟩
      rw [hfz] at hff hl3
      have HFF := Lib.hid hff; have HFZ := Lib.hid hfz
      clear hff hfz
      have hc6 := HFF.out
      have HC6 := Lib.hid hc6
      clear hc6
      go_wp2_with (fail)
      refine HC6.out.mono ?_
      rintro e w6 ⟨v6, rfl, ho6, hb6⟩
      obtain ⟨Aw6, cw6, rfl, _, _⟩ := ownsRow_form ho6
      have HST6 := Lib.hid (HS5.out.call hb6); have HO6 := Lib.hid ho6
      clear ho6 hb6 k0 k1 k2 k3 k4 k5 k6 k7 f0 f1
      go_wp2_with (at_builtin; refine St.append rfl _ _ rfl HST6.out (by decide) rfl _ _ _ _ _ rfl HO6.out (by rw [List.length_append]; omega) ?_; intro x6 W6 hs6; have k0 := hs6.box.cell 0; have k1 := hs6.box.cell 1; have k2 := hs6.box.cell 2; have k3 := hs6.box.cell 3; have k4 := hs6.box.cell 4; have k5 := hs6.box.cell 5; have k6 := hs6.box.cell 6; have k7 := hs6.box.cell 7; simp only [List.getElem?_toArray, List.getElem?_cons_zero, List.getElem?_cons_succ] at k0 k1 k2 k3 k4 k5 k6 k7; have f0 := (HKP.out W6 hs6.bel (ad4.add (j4 * 2)) (hadb4 _)).trans e4_0; have f1 := (HKP.out W6 hs6.bel ⟨(ad4.add (j4 * 2)).block, _, none⟩ (hadb4 _)).trans e4_1; have HS6 := Lib.hid hs6; clear hs6)
      go_roundw
      case rel => exact ⟨j4 + 1, by omega, by go_num, by rw [HTS.out]; have h := HS6.out; rw [List.append_assoc, ← HFZ.out] at h; exact h⟩
      case measure => simp [RowKit.intOf]; omega
    · obtain rfl : m8 = j4 := by omega
      have hx := HR4.out
      rw [List.take_of_length_le (by rw [HN8.out]; exact Nat.le_refl _)] at hx
      have hlz : (z3 ++ p.entries.flatMap enB).length ≤ 2000000000 := by
        have h1 := HP4.out m8
        have h2 := HN8.out
        rw [List.take_of_length_le (by rw [h2]; exact Nat.le_refl _)] at h1
        rw [List.length_append]
        omega
      obtain ⟨z4, hz4⟩ : ∃ z, z3 ++ p.entries.flatMap enB = z := ⟨_, rfl⟩
      rw [hz4] at hx hlz
      have HZ4 := Lib.hid hz4; have HX4 := Lib.hid hx; have HLZ4 := Lib.hid hlz
      clear hx hz4 hlz HR4 hlt4
      have hbe : bodyB p = z4 := by
        rw [HBE.out, ← HZ4.out, ← HZ3.out]
        unfold allB
        rw [← HN8.out]
        simp only [List.append_assoc]
      have hzb := bodyB_lt p
      have hlq := HLZ4.out
      have hys := HYS.out
      rw [if_pos trivial] at hys
      rw [hbe] at hzb hys
      have hst := HX4.out
      obtain ⟨Az, cz, ez, _, _⟩ := ownsRow_form hst.own
      subst ez
      have hsum := refsum_any Az z4.length cz (z4.map UInt8.ofNat) V4 (readB_of (Reads.of_own hst.own) hzb) (by unfold maxLen; omega)
      rw [u8_nat hzb] at hsum
      have hq := sumB_lt hzb
      obtain ⟨q, hqq⟩ : ∃ q, sumB z4 = q := ⟨_, rfl⟩
      rw [hqq] at hsum hq hys
      have hfour := refFour_any q hq V4
      have hfl4 : (fourB q).length ≤ 4 := Nat.le_refl _
      generalize fourB q = f4 at *
      have HSUM := Lib.hid hsum; have HFOUR := Lib.hid hfour; have HSTz := Lib.hid hst; have HYSz := Lib.hid hys
      clear hsum hfour hst hys hzb hqq hbe hq
      go_wp2_with fail
      refine HSUM.out.mono ?_
      rintro e ws ⟨rfl, rfl⟩
      have hc7 := HFOUR.out
      have HC7 := Lib.hid hc7
      clear hc7
      go_wp2_with (fail)
      refine HC7.out.mono ?_
      rintro e w7 ⟨v7, rfl, ho7, hb7⟩
      obtain ⟨Aw7, cw7, rfl, _, _⟩ := ownsRow_form ho7
      have HST7 := Lib.hid (HSTz.out.call hb7); have HO7 := Lib.hid ho7
      clear ho7 hb7 k0 k1 k2 k3 k4 k5 k6 k7
      go_wp2_with (at_builtin; refine St.append rfl _ _ rfl HST7.out (by decide) rfl _ _ _ _ _ rfl HO7.out (by omega) ?_; intro x7 W7 hs7; have k0 := hs7.box.cell 0; have k1 := hs7.box.cell 1; have k2 := hs7.box.cell 2; have k3 := hs7.box.cell 3; have k4 := hs7.box.cell 4; have k5 := hs7.box.cell 5; have k6 := hs7.box.cell 6; have k7 := hs7.box.cell 7; simp only [List.getElem?_toArray, List.getElem?_cons_zero, List.getElem?_cons_succ] at k0 k1 k2 k3 k4 k5 k6 k7; have HS7 := Lib.hid hs7; clear hs7)
      go_ret2
      exact ⟨_, rfl, by rw [← HYSz.out]; exact HS7.out.own, HS7.out.bel⟩
end Go.Proofs.YtmepaeahchiglaaGreatDoor
namespace Go.Proofs.YtmepaeahchiglaaGreatDoor
open Go.RowKit Go.Lib

set_option maxRecDepth 20000 in
set_option maxHeartbeats 1000000 in
theorem rletter_any (c : UInt8) (w : World) : Calls Tryz.prog 203 #[.int .u8 c.toNat] w fun e w' => e = .returned (.bool (okByte c)) ∧ w = w' := by
  obtain ⟨r, hr⟩ : ∃ r, okByte c = r := ⟨_, rfl⟩
  rw [hr]
  unfold okByte at hr
  have h256 := c.toNat_lt
  obtain ⟨n, hn⟩ : ∃ n, c.toNat = n := ⟨_, rfl⟩
  rw [hn] at hr h256 ⊢
  have HR := Lib.hid hr
  clear hr hn
  go_enter Tryz.func203, Tryz.ntmps203
  go_wp2
  all_goals
    go_ret
    refine ⟨?_, rfl⟩
    rw [← HR.out]
    simp
    try (first | omega | (rw [Bool.eq_iff_iff]; simp only [Bool.or_eq_true, Bool.and_eq_true, decide_eq_true_eq, beq_iff_eq]; omega))
set_option maxRecDepth 20000 in
set_option maxHeartbeats 2000000 in
theorem rname_any (s : ByteArray) (w : World) (hs : s.size ≤ maxLen) : Calls Tryz.prog 157 #[.string s] w fun e w' => e = .returned (.bool (okName s)) ∧ w = w' := by
  obtain ⟨r, hr⟩ : ∃ r, okName s = r := ⟨_, rfl⟩
  rw [hr]
  rw [okName_iff] at hr
  have HR := Lib.hid hr
  clear hr
  unfold maxLen at hs
  go_enter Tryz.func157, Tryz.ntmps157
  go_wp2
  go_loopw [3] (fun i wr => ∃ k : Nat, k ≤ s.size ∧ i = .int .i64 k ∧ ((bs s).take k).all okByte = true ∧ w = wr) (fun i _ => s.size - (RowKit.intOf i).toNat)
  case atStart => exact ⟨0, by omega, rfl, rfl, rfl⟩
  case round =>
    obtain ⟨k, hk, rfl, hall, rfl⟩ := hrel
    by_cases hlt : k < s.size
    · have hkI : (k : Int) < (s.size : Int) := by omega
      have hk0 : (0 : Int) ≤ (k : Int) := by omega
      have hkb : k < (bs s).length := by rw [size_bs]; exact hlt
      have hbk : (bs s)[k] = s[k]'hlt := rfl
      have hnx : ((bs s).take (k + 1)).all okByte = (okByte (s[k]'hlt)) := by
        rw [List.take_succ_eq_append_getElem hkb, List.all_append, hall, hbk]; simp
      have hx256 : (((s[k]'hlt).toNat : Nat) : Int) < 256 := by have := (s[k]'hlt).toNat_lt; omega
      have hc := rletter_any (s[k]'hlt) w
      cases hv : okByte (s[k]'hlt) with
      | false =>
        rw [hv] at hc
        have HC := Lib.hid hc
        have hbad : (bs s).all okByte = false := by
          rw [List.all_eq_false]
          exact ⟨_, List.getElem_mem hkb, by rw [hbk, hv]; decide⟩
        obtain rfl : r = false := by rw [← HR.out, hbad, Bool.and_false, Bool.and_false]
        clear hc hv hnx hbad hall hbk hkb
        go_wp2_with fail
        refine HC.out.mono ?_
        rintro e w' ⟨rfl, rfl⟩
        go_wp2
        go_ret
        exact ⟨rfl, rfl⟩
      | true =>
        rw [hv] at hc hnx
        have HC := Lib.hid hc; have HN := Lib.hid hnx
        clear hc hv hnx hall hbk hkb
        go_wp2_with fail
        refine HC.out.mono ?_
        rintro e w' ⟨rfl, rfl⟩
        go_wp2
        go_roundw
        case rel => exact ⟨k + 1, by omega, by go_num, HN.out, trivial⟩
        case measure => simp [RowKit.intOf]; omega
    · obtain rfl : s.size = k := by omega
      have hall2 : (bs s).all okByte = true := by
        rw [List.take_of_length_le (by rw [size_bs]; exact Nat.le_refl _)] at hall
        exact hall
      have hr := HR.out
      rw [hall2, Bool.and_true] at hr
      have HR2 := Lib.hid hr
      clear hall hall2 hr HR
      by_cases h1 : 1 ≤ s.size
      · have h1I : (1 : Int) ≤ (s.size : Int) := by omega
        by_cases h2 : s.size ≤ 24
        · have h2I : (s.size : Int) ≤ 24 := by omega
          obtain rfl : r = true := by rw [← HR2.out]; simp; omega
          clear h1 h2
          go_wp2
          go_ret
          exact ⟨rfl, rfl⟩
        · have h2I : ¬ (s.size : Int) ≤ 24 := by omega
          obtain rfl : r = false := by rw [← HR2.out]; simp; omega
          clear h1 h2
          go_wp2
          go_ret
          exact ⟨rfl, rfl⟩
      · have h1I : ¬ (1 : Int) ≤ (s.size : Int) := by omega
        obtain rfl : r = false := by rw [← HR2.out]; simp; omega
        clear h1
        go_wp2
        go_ret
        exact ⟨rfl, rfl⟩
end Go.Proofs.YtmepaeahchiglaaGreatDoor
