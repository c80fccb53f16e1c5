/-
  layer 43: the writer that starts at the constant bytes. Conditions: a project that can be read, of the size of a valid one.
-/
import Derived.Test.YtmepaeahchiglaaGreatDoorZbaz
import Derived.Laws.Append
namespace Go.Proofs.YtmepaeahchiglaaGreatDoor
open Go.RowKit Go.Lib

/-- A writer whose bytes are a constant's: full, behind its last byte the run-time's mark. -/
def WrS (w : World) (base g : Nat) (xs : List Nat) : Prop :=
  ∃ b fz, Blk w g 92 #[.slice (some ⟨b, 0, none⟩) xs.length xs.length] ∧ base ≤ g ∧ base ≤ b ∧ w.heap[b]? = some (.cells (xs.map bv).toArray 5 fz)
theorem WrS.lt {w : World} {base g : Nat} {xs : List Nat} (h : WrS w base g xs) : g < w.heap.size := by
  obtain ⟨b, fz, h1, _⟩ := h; exact h1.lt
theorem WrS.base_le {w : World} {base g : Nat} {xs : List Nat} (h : WrS w base g xs) : base ≤ g := by
  obtain ⟨b, fz, _, h, _⟩ := h; exact h
theorem WrS.alloc {w : World} {base g : Nat} {xs : List Nat} (h : WrS w base g xs) (o : Obj) : WrS (w.alloc o) base g xs := by
  obtain ⟨b, fz, h1, h2, h3, h4⟩ := h
  exact ⟨b, fz, h1.alloc o, h2, h3, (Below.heap_alloc _ _ _ (Array.getElem?_eq_some_iff.1 h4).1).trans h4⟩
theorem WrS.rowOf_ {w : World} {base g : Nat} {xs : List Nat} (h : WrS w base g xs) : ∀ k, rowOf w g = some k → base ≤ k ∧ k < w.heap.size := by
  obtain ⟨b, fz, h1, h2, h3, h4⟩ := h
  intro k hk
  unfold rowOf at hk
  rw [h1.cell 0] at hk
  have hk : b = k := by simpa [Value.ownBlock] using hk
  subst hk
  exact ⟨h3, (Array.getElem?_eq_some_iff.1 h4).1⟩
theorem WStep.belowS {w w' : World} {base g : Nat} {xs : List Nat} (h : WStep g w w') (hw : WrS w base g xs) : Below base w w' :=
  ⟨h.os, h.tape, h.output, h.size, fun k hk => by
    have := hw.base_le
    have := hw.lt
    exact h.block k (by omega) (by omega) (fun e => by have := hw.rowOf_ k e; omega)⟩
theorem WStep.blkS {w w' : World} {base g k : Nat} {t : TypeId} {cs : Array Value} {xs : List Nat} (h : WStep g w w') (hw : WrS w base g xs) (hk : Blk w k t cs) (h1 : t ≠ 5) (h2 : k ≠ g) : Blk w' k t cs := by
  refine (h.block k hk.lt h2 ?_).trans hk
  obtain ⟨b, fz, b1, b2, b3, b4⟩ := hw
  unfold rowOf
  rw [b1.cell 0]
  intro e
  have e : b = k := by simpa [Value.ownBlock] using e
  subst e
  have := b4.symm.trans hk
  injection this with this
  injection this with _ this _
  exact h1 this.symm
theorem wr_oneS {w w2 : World} {base g b n : Nat} {xs : List Nat} {v' : Value} {o : Obj} (b1 : Blk w g 92 #[.slice (some ⟨b, 0, none⟩) xs.length xs.length]) (b2 : base ≤ g)
    (h2 : w2.ownsRow base 5 1 v' (xs.length + 1) (xs.map bv ++ [bv n])) (h3 : (w.alloc o).grownBy w2 none) (h4 : v'.ownBlock = some (w.alloc o).heap.size) :
    Wr (w2.setCell ⟨g, 0, none⟩ v') base g (xs ++ [n]) ∧ WStep g w (w2.setCell ⟨g, 0, none⟩ v') := by
  have hgl := b1.lt
  have hB1 := b1.alloc o
  have hB2 : Blk w2 g 92 #[.slice (some ⟨b, 0, none⟩) xs.length xs.length] := (h3.block g hB1.lt (by simp)).trans hB1
  have hne' : v'.ownBlock ≠ some g := own_blk_ne h2 hB2 (by decide)
  have hset : Blk (w2.setCell ⟨g, 0, none⟩ v') g 92 #[v'] := by simpa using hB2.set_ 0 v'
  have hrow : rowOf (w2.setCell ⟨g, 0, none⟩ v') g = v'.ownBlock := by unfold rowOf; rw [hset.cell 0]; rfl
  refine ⟨⟨v', hset, b2, ?_⟩, ?_⟩
  · rw [List.length_append, List.map_append]
    exact h2.kept (row := some g) ⟨rfl, rfl, rfl, by simp [World.setCell], fun i hi hne => Below.heap_setCell _ _ _ _ (by simpa using hne)⟩ (.inr hne')
  · refine ((WStep.refl g w).alloc hgl o).trans ⟨h3.os, h3.tape, h3.output, by have := h3.size; simpa [World.setCell] using this, fun k hk hg hr' => ?_, ?_⟩
    · rw [Below.heap_setCell _ _ _ _ hg]
      exact h3.block k hk (by simp)
    · rw [hrow]
      exact .inr ⟨_, h4, Nat.le_refl _⟩
/-- One byte behind a full list. -/
theorem append_full {ops : Array Oper} {rest : List Oper} {o : Oper} {a : Act} {w : World} {Q : Exit → Act → World → Prop} (hgd : o.guard = none) (s x : Operand) (t : TypeId)
    (ho : o.op = .call { callee := .builtin .append, args := #[s, x], argTypes := #[t, t] })
    (base : Nat) (i : TypeInfo) (ht : Tryz.prog.underlying t = some (.slice 5)) (hi : Tryz.prog.info? 5 = some i) (hz : i.zero = some (.int .u8 0)) (hsize : i.size = 1) (hby : i.bytes = 1)
    (b n : Nat) (xs : List Nat) (fz : Nat × Nat) (hs : a.eval s = .slice (some ⟨b, 0, none⟩) xs.length xs.length) (hb : w.heap[b]? = some (.cells (xs.map bv).toArray 5 fz))
    (d c : Nat) (hx : a.eval x = .slice (some ⟨d, 0, none⟩) 1 c) (hd : w.cell? ⟨d, 0, none⟩ = some (bv n)) (hl : xs.length ≤ 1000) (hbase : base ≤ w.heap.size)
    (h : ∀ v' w', w'.ownsRow base 5 1 v' (xs.length + 1) (xs.map bv ++ [bv n]) → w.grownBy w' none → v'.ownBlock = some w.heap.size → wpList Tryz.prog ops Q rest (a.put o.dst v') w') : wpList Tryz.prog ops Q (o :: rest) a w := by
  refine wpList_plain hgd fun _ hK => ?_
  have hold : ∀ j u, (xs.map bv)[j]? = some u → w.cell? ((⟨b, 0, none⟩ : Addr).add j) = some u := by
    intro j u hu
    rw [add_at, cell_of_row w _ j _ 5 fz hb]
    simpa using hu
  have hnew : ∀ j u, [bv n][j]? = some u → w.cell? ((⟨d, 0, none⟩ : Addr).add j) = some u := by
    intro j u hu
    cases j with
    | zero => rw [add_at]; simpa using hd.trans hu
    | succ j => simp at hu
  have hrun := run_append_grow (P := Tryz.prog) w t o.type 5 i (.int .u8 0) ht hi hz ⟨b, 0, none⟩ xs.length xs.length (xs.map bv) (by rw [hsize]; simp) hold ⟨d, 0, none⟩ 1 c [bv n] (by rw [hsize]; rfl) hnew (by omega) (by omega) (by rw [hby]; exact growslice_fits (by omega) (by omega))
  have hge := grownCap_ge w (xs.length + 1) xs.length 5
  have hcm2 : grownCap w (xs.length + 1) xs.length 5 ≤ maxLen := grownCap_le_maxLen w (xs.length + 1) xs.length 5 (by unfold maxLen; omega)
  have hlen : (xs.map bv ++ [bv n]).length = (xs.length + 1) * 1 := by simp
  unfold Oper.wp execOp
  simp only [ho, resolve, invoke, builtin, Sem.run_bind, Sem.run_pure, Result.andThen_ok, List.map_toArray, List.map_cons, List.map_nil, hs, hx, hrun]
  refine hK _ _ (h _ _ ⟨hlen, .inr ⟨w.heap.size, _, _, rfl, hbase, heap_alloc_new w.drew _, hge, hcm2, ?_, ?_⟩⟩ ⟨rfl, rfl, rfl, by simp, fun k hk _ => Below.heap_alloc w.drew _ k hk⟩ rfl)
  · have hz1 : (Value.int IntKind.u8 0).cells.size = 1 := rfl
    simp only [Array.size_append, List.size_toArray, size_zeroCells, hz1, List.length_map, List.length_singleton]
    omega
  · simp only [Array.toList_append]
    rw [← hlen]
    exact List.take_left
set_option maxRecDepth 20000 in
set_option maxHeartbeats 4000000 in
theorem numS_any (w : World) (base g n : Nat) (xs : List Nat) (h : WrS w base g xs) (hn : n < 128) (hx : xs.length ≤ 1000) :
    Calls Tryz.prog 90 #[wptr g, .int .u32 n] w fun e w' => e = .returned (.tuple #[]) ∧ Wr w' base g (xs ++ numB n) ∧ WStep g w w' := by
  obtain ⟨i0, hi, hz0, hz1, hz2⟩ := info_parts (show (Tryz.prog.info? 5).map (fun i => (i.zero, i.size, i.bytes)) = some (some (.int .u8 0), 1, 1) by kernel_rfl)
  obtain ⟨b, fz, b1, b2, b3, b4⟩ := h
  have hnb : numB n = [n] := numB_last hn
  rw [hnb]
  have hc := b1.cell 0
  have hf := b1.frozen 0
  simp only [List.getElem?_toArray, List.getElem?_cons_zero] at hc
  have hgl := b1.lt
  have hltI : ¬ (128 : Int) ≤ n := by omega
  have hw8 : (n : Int) % 256 = n := by omega
  have hbl := (Array.getElem?_eq_some_iff.1 b4).1
  have hb4' := (Below.heap_alloc w (.cells #[bv n] 5) b hbl).trans b4
  have hd := (Blk.new w 5 #[bv n]).cell 0
  simp only [List.getElem?_toArray, List.getElem?_cons_zero] at hd
  have HB1 := Lib.hid b1; have HB4 := Lib.hid b4; have HB4' := Lib.hid hb4'; have HD := Lib.hid hd
  clear b1 b4 hd hb4'
  go_enter Tryz.func90, Tryz.ntmps90
  go_wp2
  go_loopw [1] (fun i wr => i = .int .u32 n ∧ wr = w) (fun i _ => 0)
  case atStart => exact ⟨rfl, rfl⟩
  case round =>
    obtain ⟨rfl, rfl⟩ := hrel
    go_wp2_with (at_builtin; refine append_full rfl _ _ 92 rfl base i0 Tryz.underlying92 hi hz0 hz1 hz2 b n xs fz rfl HB4'.out _ _ rfl HD.out hx (by simp; omega) ?_; intro v' w3 hown' hgrow hx'; have hres := wr_oneS HB1.out b2 hown' hgrow hx'; have hb3 : Blk w3 g 92 #[.slice (some ⟨b, 0, none⟩) xs.length xs.length] := (HB1.out.alloc _).grown hgrow (fun e => by simp at e); have hc3 : w3.cell? ⟨g, 0, none⟩ = some (.slice (some ⟨b, 0, none⟩) xs.length xs.length) := (by simpa using hb3.cell 0); have hf3 := hb3.frozen 0; have HRES := Lib.hid hres; clear hres hb3 hx' hgrow; obtain ⟨A', c', rfl, _, _⟩ := ownsRow_form hown'; have HOWN := Lib.hid hown'; clear hown')
    go_end0
    exact ⟨rfl, HRES.out.1, HRES.out.2⟩
theorem countS_any (w : World) (base g : Nat) (n : Nat) (xs : List Nat) (h : WrS w base g xs) (hn : n < 128) (hx : xs.length ≤ 1000) :
    Calls Tryz.prog 93 #[wptr g, .int .i64 n] w fun e w' => e = .returned (.tuple #[]) ∧ Wr w' base g (xs ++ numB n) ∧ WStep g w w' := by
  have hc := numS_any w base g n xs h hn hx
  have hw : (n : Int) % 4294967296 = n := by omega
  clear h hx
  go_enter Tryz.func93, Tryz.ntmps93
  go_wp2_with fail
  refine hc.mono ?_
  rintro e w' ⟨rfl, h1, h2⟩
  go_wp2
  go_end0
  exact ⟨rfl, h1, h2⟩
set_option maxRecDepth 20000 in
set_option maxHeartbeats 2000000 in
theorem allTextS_any (w : World) (base g B : Nat) (v : Value) (l : List ByteArray) (xs : List Nat) (h : WrS w base g xs) (hs : SlC StrC 1 w B l v) (hB : B ≤ base) (hn : l.length < 128) (hok : ∀ x ∈ l, x.size ≤ 1000) (hx : xs.length + 5 + 1005 * l.length ≤ CAP) (hx4 : xs.length ≤ 1000) :
    Calls Tryz.prog 84 #[wptr g, v, .func (.func 85) #[wptr g] #[]] w fun e w' => e = .returned (.tuple #[]) ∧ Wr w' base g (xs ++ allB textB l) ∧ WStep g w w' := by
  obtain ⟨A, n, c, rfl, hnl⟩ := hs.form
  have hc1 := countS_any w base g n xs h (by omega) hx4
  have hl := numB_len n
  have HNL := Lib.hid hnl
  have HH := Lib.hid h; have HSL := Lib.hid hs; have HOK := Lib.hid hok
  clear h hs hok hnl
  go_enter Tryz.func84, Tryz.ntmps84
  go_wp2_with fail
  refine hc1.mono ?_
  rintro e w1 ⟨rfl, h1, h2⟩
  have HW := Lib.hid h1; have HST := Lib.hid h2
  clear h1 h2 hc1
  go_wp2
  go_loopw [14] (fun i wr => ∃ k : Nat, k ≤ n ∧ i = .int .i64 k ∧ Wr wr base g (xs ++ numB n ++ (l.take k).flatMap textB) ∧ WStep g w wr) (fun i _ => n - (RowKit.intOf i).toNat)
  case atStart => exact ⟨0, by omega, rfl, by simpa using HW.out, HST.out⟩
  case round =>
    obtain ⟨k, hk, rfl, hwr, hst⟩ := hrel
    have HWR := Lib.hid hwr; have HST2 := Lib.hid hst
    clear hwr hst
    by_cases hlt : k < n
    · have hkl : k < l.length := by have := HNL.out; omega
      have hkI : (k : Int) < (n : Int) := by omega
      have hk0 : (0 : Int) ≤ (k : Int) := by omega
      have hkeep : ∀ p : Addr, p.block < B → wr.cell? p = w.cell? p := fun p hp => (HST2.out.belowS HH.out).cell (Nat.lt_of_lt_of_le hp hB)
      obtain ⟨ad, cs, rfl, had, hP, hcc⟩ := slC_cells (w := wr) (by intro x cs h; rw [show cs = _ from h]; rfl) (SlC.plain hkeep HSL.out (fun _ _ h => h)) hkl
      have hlen : (xs ++ numB n ++ (l.take k).flatMap textB).length + 1005 ≤ CAP := by
        have hm : ∀ x ∈ l.take k, (textB x).length ≤ 1005 := fun x hx => by
          have hx := HOK.out x (List.mem_of_mem_take hx)
          have := textB_len x; omega
        have h2 := flatB_mem hm
        rw [List.length_append, List.length_append]
        rw [List.length_take] at h2
        have h3 : 1005 * (min k l.length) + 1005 ≤ 1005 * l.length := by
          rw [Nat.min_eq_left (Nat.le_of_lt hkl), ← Nat.mul_succ]
          exact Nat.mul_le_mul_left _ hkl
        have := HNL.out
        omega
      have hts := take_flat textB l k hkl
      have hokx := HOK.out _ (List.getElem_mem hkl)
      have HTS := Lib.hid hts; have HLEN := Lib.hid hlen; have HOKX := Lib.hid hokx; have HKEEP := Lib.hid hkeep
      clear hts hlen hokx hkeep
      generalize l[k] = x at *
      obtain rfl : cs = [Value.string x] := hP
      have e0 := hcc 0 _ rfl
      rw [Nat.mul_one, Nat.add_zero] at e0
      clear hcc
      have hwa := HWR.out
      have hsa := HST2.out
      have hcall := text_any _ base g x _ hwa (by have := HOKX.out; omega) (by have := HOKX.out; have := HLEN.out; omega)
      have HCALL := Lib.hid hcall; have HSA := Lib.hid hsa
      clear hcall hwa hsa
      go_wp2_with fail
      refine HCALL.out.mono ?_
      rintro e w2 ⟨rfl, h3, h4⟩
      have H3 := Lib.hid h3; have H4 := Lib.hid h4
      clear h3 h4
      go_wp2
      go_roundw
      case rel => exact ⟨k + 1, by omega, by go_num, by rw [HTS.out, ← List.append_assoc]; exact H3.out, HSA.out.trans H4.out⟩
      case measure => simp [RowKit.intOf]; omega
    · obtain rfl : k = n := by omega
      go_wp2
      go_end0
      refine ⟨rfl, ?_, HST2.out⟩
      have := HWR.out
      rw [List.take_of_length_le (by have := HNL.out; omega), List.append_assoc] at this
      show Wr wr base g (xs ++ (numB l.length ++ l.flatMap textB))
      rw [← HNL.out]; exact this
set_option maxRecDepth 20000 in
set_option maxHeartbeats 4000000 in
theorem projectS_any (w : World) (base g B : Nat) (p : Pj) (cs : List Value) (xs : List Nat) (h : WrS w base g xs) (hp : ProjC w B p cs) (hB : B ≤ base) (hok : PjOk p) (hn24 : p.feats.length < 128) (hx : xs.length ≤ 1000) :
    Calls Tryz.prog 36 #[wptr g, .agg cs.toArray] w fun e w' => e = .returned (.tuple #[]) ∧ Wr w' base g (xs ++ projB p) ∧ WStep g w w' := by
  have hx4 := hx
  replace hx : xs.length + 3000000000 ≤ CAP := by unfold CAP; omega
  obtain ⟨v1, v2, v3, v4, v5, v6, v7, v8, rfl, q1, q2, q3, q4, q5, q6, q7, q8⟩ := hp
  obtain ⟨A1, m1, c1, rfl, e1⟩ := q1.form
  obtain ⟨A2, m2, c2, rfl, e2⟩ := q2.form
  obtain ⟨A3, m3, c3, rfl, e3⟩ := q3.form
  obtain ⟨A4, m4, c4, rfl, e4⟩ := q4.form
  obtain ⟨A5, m5, c5, rfl, e5⟩ := q5.form
  obtain ⟨A6, m6, c6, rfl, e6⟩ := q6.form
  obtain ⟨A7, m7, c7, rfl, e7⟩ := q7.form
  obtain ⟨A8, m8, c8, rfl, e8⟩ := q8.form
  obtain ⟨l1, l2, l3, l4, l5, l6, l7, l8⟩ := hok.lens
  have e6' := hok.n6
  have hw0 := (h.alloc (.cells #[wptr g] 142)).alloc (.cells #[.slice A1 m1 c1, .slice A2 m2 c2, .slice A3 m3 c3, .slice A4 m4 c4, .slice A5 m5 c5, .slice A6 m6 c6, .slice A7 m7 c7, .slice A8 m8 c8] 33)
  have hst := ((WStep.refl g w).alloc h.lt (.cells #[wptr g] 142)).alloc (by rw [World.size_alloc]; have := h.lt; omega) (.cells #[.slice A1 m1 c1, .slice A2 m2 c2, .slice A3 m3 c3, .slice A4 m4 c4, .slice A5 m5 c5, .slice A6 m6 c6, .slice A7 m7 c7, .slice A8 m8 c8] 33)
  have hk2 := (Blk.new w 142 #[wptr g]).alloc (.cells #[.slice A1 m1 c1, .slice A2 m2 c2, .slice A3 m3 c3, .slice A4 m4 c4, .slice A5 m5 c5, .slice A6 m6 c6, .slice A7 m7 c7, .slice A8 m8 c8] 33)
  have hk3 := Blk.new (w.alloc (.cells #[wptr g] 142)) 33 #[.slice A1 m1 c1, .slice A2 m2 c2, .slice A3 m3 c3, .slice A4 m4 c4, .slice A5 m5 c5, .slice A6 m6 c6, .slice A7 m7 c7, .slice A8 m8 c8]
  rw [World.size_alloc] at hk3
  have hgl := h.lt
  obtain ⟨W, hW⟩ : ∃ W, (w.alloc (.cells #[wptr g] 142)).alloc (.cells #[.slice A1 m1 c1, .slice A2 m2 c2, .slice A3 m3 c3, .slice A4 m4 c4, .slice A5 m5 c5, .slice A6 m6 c6, .slice A7 m7 c7, .slice A8 m8 c8] 33) = W := ⟨_, rfl⟩
  rw [hW] at hw0 hst hk2 hk3
  have HX := Lib.hid h; have HW0 := Lib.hid hw0; have HT0 := Lib.hid hst; have HK2 := Lib.hid hk2; have HK3 := Lib.hid hk3; have HOK := Lib.hid hok; have HWW := Lib.hid hW; have HE6 := Lib.hid e6
  have HQ1 := Lib.hid q1; have HQ2 := Lib.hid q2; have HQ3 := Lib.hid q3; have HQ4 := Lib.hid q4; have HQ5 := Lib.hid q5; have HQ6 := Lib.hid q6; have HQ7 := Lib.hid q7; have HQ8 := Lib.hid q8
  have hkeep : ∀ W', WStep g w W' → ∀ q : Addr, q.block < B → W'.cell? q = w.cell? q := fun W' h' q hq => (h'.belowS HX.out).cell (Nat.lt_of_lt_of_le hq hB)
  have HKEEP := Lib.hid hkeep
  have n1 := hok.n1; have n2 := hok.n2; have n3 := hok.n3; have n4 := hok.n4; have n5 := hok.n5; have n7 := hok.n7; have n8 := hok.n8
  have k20 := hk2.cell 0
  have k30 := hk3.cell 0
  have k31 := hk3.cell 1
  have k32 := hk3.cell 2
  have k33 := hk3.cell 3
  have k34 := hk3.cell 4
  have k35 := hk3.cell 5
  have k36 := hk3.cell 6
  have k37 := hk3.cell 7
  simp only [List.getElem?_toArray, List.getElem?_cons_zero, List.getElem?_cons_succ] at k20 k30 k31 k32 k33 k34 k35 k36 k37
  clear h hw0 hst hk2 hk3 hok hW e6 q1 q2 q3 q4 q5 q6 q7 q8 hkeep e1 e2 e3 e4 e5 e7 e8
  show Calls _ _ _ _ fun e w' => e = .returned (.tuple #[]) ∧ Wr w' base g (xs ++ (allB textB p.feats ++ (allB nmdB p.sounds ++ (allB mkdB p.marks ++ (allB ndB p.tree ++ (allB lawB p.laws ++ (p.on.flatMap (allB intB) ++ (allB formB p.protos ++ allB enB p.entries)))))))) ∧ WStep g w w'
  go_enter Tryz.func36, Tryz.ntmps36
  have HW_0 := HW0; have HT_0 := HT0; have HK2_0 := HK2; have HK3_0 := HK3
  clear HW0 HT0 HK2 HK3
  have hne2 : w.heap.size ≠ g := by omega
  have hne3 : w.heap.size + 1 ≠ g := by omega
  go_wp2_with (rw [HWW.out])
  refine (allTextS_any _ base g B _ p.feats _ HW_0.out (SlC.plain (HKEEP.out _ HT_0.out) HQ1.out (fun _ _ h => h)) hB hn24 HOK.out.o1 (by (try simp only [List.length_append]); omega) hx4).mono ?_
  rintro e w1 ⟨rfl, h1, h2⟩
  have HW_1 := Lib.hid h1; have HT_1 := Lib.hid (HT_0.out.trans h2); have HTL_1 := Lib.hid (h2)
  have HK2_1 := Lib.hid (h2.blkS HW_0.out HK2_0.out (by decide) hne2); have HK3_1 := Lib.hid (h2.blkS HW_0.out HK3_0.out (by decide) hne3)
  clear h1 h2 k20 k30 k31 k32 k33 k34 k35 k36 k37
  have k20 := HK2_1.out.cell 0
  have k30 := HK3_1.out.cell 0
  have k31 := HK3_1.out.cell 1
  have k32 := HK3_1.out.cell 2
  have k33 := HK3_1.out.cell 3
  have k34 := HK3_1.out.cell 4
  have k35 := HK3_1.out.cell 5
  have k36 := HK3_1.out.cell 6
  have k37 := HK3_1.out.cell 7
  simp only [List.getElem?_toArray, List.getElem?_cons_zero, List.getElem?_cons_succ] at k20 k30 k31 k32 k33 k34 k35 k36 k37
  go_wp2_with fail
  refine (allNmd_any _ base g w.heap.size B _ p.sounds _ HW_1.out HK2_1.out (SlC.plain (HKEEP.out _ HT_1.out) HQ2.out (fun _ _ h => h)) hB (by omega) HOK.out.o2 (by (try simp only [List.length_append]); omega)).mono ?_
  rintro e w2 ⟨rfl, h1, h2⟩
  have HW_2 := Lib.hid h1; have HT_2 := Lib.hid (HT_1.out.trans h2); have HTL_2 := Lib.hid (HTL_1.out.trans h2)
  have HK2_2 := Lib.hid (h2.blk HW_1.out HK2_1.out (by decide) hne2); have HK3_2 := Lib.hid (h2.blk HW_1.out HK3_1.out (by decide) hne3)
  clear h1 h2 k20 k30 k31 k32 k33 k34 k35 k36 k37
  have k20 := HK2_2.out.cell 0
  have k30 := HK3_2.out.cell 0
  have k31 := HK3_2.out.cell 1
  have k32 := HK3_2.out.cell 2
  have k33 := HK3_2.out.cell 3
  have k34 := HK3_2.out.cell 4
  have k35 := HK3_2.out.cell 5
  have k36 := HK3_2.out.cell 6
  have k37 := HK3_2.out.cell 7
  simp only [List.getElem?_toArray, List.getElem?_cons_zero, List.getElem?_cons_succ] at k20 k30 k31 k32 k33 k34 k35 k36 k37
  go_wp2_with fail
  refine (allMkd_any _ base g w.heap.size B _ p.marks _ HW_2.out HK2_2.out (SlC.plain (HKEEP.out _ HT_2.out) HQ3.out (fun _ _ h => h)) hB (by omega) HOK.out.o3 (by (try simp only [List.length_append]); omega)).mono ?_
  rintro e w3 ⟨rfl, h1, h2⟩
  have HW_3 := Lib.hid h1; have HT_3 := Lib.hid (HT_2.out.trans h2); have HTL_3 := Lib.hid (HTL_2.out.trans h2)
  have HK2_3 := Lib.hid (h2.blk HW_2.out HK2_2.out (by decide) hne2); have HK3_3 := Lib.hid (h2.blk HW_2.out HK3_2.out (by decide) hne3)
  clear h1 h2 k20 k30 k31 k32 k33 k34 k35 k36 k37
  have k20 := HK2_3.out.cell 0
  have k30 := HK3_3.out.cell 0
  have k31 := HK3_3.out.cell 1
  have k32 := HK3_3.out.cell 2
  have k33 := HK3_3.out.cell 3
  have k34 := HK3_3.out.cell 4
  have k35 := HK3_3.out.cell 5
  have k36 := HK3_3.out.cell 6
  have k37 := HK3_3.out.cell 7
  simp only [List.getElem?_toArray, List.getElem?_cons_zero, List.getElem?_cons_succ] at k20 k30 k31 k32 k33 k34 k35 k36 k37
  go_wp2_with fail
  refine (allNd_any _ base g w.heap.size B _ p.tree _ HW_3.out HK2_3.out (SlC.plain (HKEEP.out _ HT_3.out) HQ4.out (fun _ _ h => h)) hB (by omega) HOK.out.o4 (by (try simp only [List.length_append]); omega)).mono ?_
  rintro e w4 ⟨rfl, h1, h2⟩
  have HW_4 := Lib.hid h1; have HT_4 := Lib.hid (HT_3.out.trans h2); have HTL_4 := Lib.hid (HTL_3.out.trans h2)
  have HK2_4 := Lib.hid (h2.blk HW_3.out HK2_3.out (by decide) hne2); have HK3_4 := Lib.hid (h2.blk HW_3.out HK3_3.out (by decide) hne3)
  clear h1 h2 k20 k30 k31 k32 k33 k34 k35 k36 k37
  have k20 := HK2_4.out.cell 0
  have k30 := HK3_4.out.cell 0
  have k31 := HK3_4.out.cell 1
  have k32 := HK3_4.out.cell 2
  have k33 := HK3_4.out.cell 3
  have k34 := HK3_4.out.cell 4
  have k35 := HK3_4.out.cell 5
  have k36 := HK3_4.out.cell 6
  have k37 := HK3_4.out.cell 7
  simp only [List.getElem?_toArray, List.getElem?_cons_zero, List.getElem?_cons_succ] at k20 k30 k31 k32 k33 k34 k35 k36 k37
  go_wp2_with fail
  refine (allLaw_any _ base g B _ p.laws _ HW_4.out (SlC.plain (HKEEP.out _ HT_4.out) HQ5.out (fun _ _ h => h.keep (HKEEP.out _ HT_4.out))) hB (by omega) HOK.out.o5 (by (try simp only [List.length_append]); omega)).mono ?_
  rintro e w5 ⟨rfl, h1, h2⟩
  have HW_5 := Lib.hid h1; have HT_5 := Lib.hid (HT_4.out.trans h2); have HTL_5 := Lib.hid (HTL_4.out.trans h2)
  have HK2_5 := Lib.hid (h2.blk HW_4.out HK2_4.out (by decide) hne2); have HK3_5 := Lib.hid (h2.blk HW_4.out HK3_4.out (by decide) hne3)
  clear h1 h2 k20 k30 k31 k32 k33 k34 k35 k36 k37
  have k20 := HK2_5.out.cell 0
  have k30 := HK3_5.out.cell 0
  have k31 := HK3_5.out.cell 1
  have k32 := HK3_5.out.cell 2
  have k33 := HK3_5.out.cell 3
  have k34 := HK3_5.out.cell 4
  have k35 := HK3_5.out.cell 5
  have k36 := HK3_5.out.cell 6
  have k37 := HK3_5.out.cell 7
  simp only [List.getElem?_toArray, List.getElem?_cons_zero, List.getElem?_cons_succ] at k20 k30 k31 k32 k33 k34 k35 k36 k37
  go_wp2
  go_loopw [39] (fun i wr => ∃ k : Nat, k ≤ m6 ∧ i = .int .i64 k ∧ Wr wr base g (xs ++ allB textB p.feats ++ allB nmdB p.sounds ++ allB mkdB p.marks ++ allB ndB p.tree ++ allB lawB p.laws ++ (p.on.take k).flatMap (allB intB)) ∧ WStep g W wr) (fun i _ => m6 - (RowKit.intOf i).toNat)
  case atStart => exact ⟨0, by omega, rfl, by rw [List.take_zero, List.flatMap_nil, List.append_nil]; exact HW_5.out, HTL_5.out⟩
  case round =>
    obtain ⟨k, hk, rfl, hwr, hst⟩ := hrel
    have HWR := Lib.hid hwr; have HST2 := Lib.hid hst; have HSTW := Lib.hid (HT_0.out.trans hst)
    have HB2 := Lib.hid (hst.blkS HW_0.out HK2_0.out (by decide) hne2); have HB3 := Lib.hid (hst.blkS HW_0.out HK3_0.out (by decide) hne3)
    clear hwr hst k20 k30 k31 k32 k33 k34 k35 k36 k37
    by_cases hlt : k < m6
    · have hkl : k < p.on.length := by have := HE6.out; omega
      have hkI : (k : Int) < (m6 : Int) := by omega
      have hk0 : (0 : Int) ≤ (k : Int) := by omega
      have hkeep := HKEEP.out wr HSTW.out
      obtain ⟨ad, cs, rfl, had, hP, hcc⟩ := slC_cells (w := wr) (by rintro x cs ⟨v, rfl, -⟩; rfl) (SlC.plain hkeep HQ6.out (fun _ _ h => OnC.keep hkeep h)) hkl
      obtain ⟨vx, rfl, hvx⟩ := hP
      have hl6 := l6 _ (List.getElem_mem hkl)
      have ho6 := HOK.out.o6 _ (List.getElem_mem hkl)
      have hts := take_flat (allB intB) p.on k hkl
      have hfl : ((p.on.take k).flatMap (allB intB)).length ≤ 6000 * k := by
        have := flatB_mem (put := allB intB) (m := 6000) (l := p.on.take k) fun x hx => l6 x (List.mem_of_mem_take hx)
        rwa [List.length_take, Nat.min_eq_left (Nat.le_of_lt hkl)] at this
      obtain ⟨Ax, nx, cx, rfl, hnx⟩ := hvx.form
      have e0 := hcc 0 _ rfl
      rw [Nat.mul_one, Nat.add_zero] at e0
      have hm6 := HE6.out
      have hcall := allInt_any wr base g B _ p.on[k] _ HWR.out hvx hB (by omega) ho6.2 (by have := ho6.1; simp only [List.length_append]; omega)
      have HCALL := Lib.hid hcall; have HTS := Lib.hid hts
      have k20 := HB2.out.cell 0
      simp only [List.getElem?_toArray, List.getElem?_cons_zero] at k20
      clear hcall hts hnx hcc hkeep hvx hl6 ho6 hfl hm6
      go_wp2_with fail
      refine HCALL.out.mono ?_
      rintro e w2 ⟨rfl, h3, h4⟩
      have H3 := Lib.hid h3; have H4 := Lib.hid h4
      clear h3 h4 e0 k20
      go_wp2
      go_roundw
      case rel => exact ⟨k + 1, by omega, by go_num, by rw [HTS.out, ← List.append_assoc]; exact H3.out, HST2.out.trans H4.out⟩
      case measure => simp [RowKit.intOf]; omega
    · obtain rfl : k = m6 := by omega
      have hall := HWR.out
      rw [List.take_of_length_le (by have := HE6.out; omega)] at hall
      have hfl : (p.on.flatMap (allB intB)).length ≤ 6000000 := by
        have := flatB_mem (put := allB intB) (m := 6000) (l := p.on) fun x hx => l6 x hx
        omega
      have HW_6 := Lib.hid hall; have HT_6 := HSTW; have HK2_6 := HB2; have HK3_6 := HB3; have HTL_6 := HST2
      clear hall HWR HST2 HSTW HB2 HB3
      have k20 := HK2_6.out.cell 0
      have k30 := HK3_6.out.cell 0
      have k31 := HK3_6.out.cell 1
      have k32 := HK3_6.out.cell 2
      have k33 := HK3_6.out.cell 3
      have k34 := HK3_6.out.cell 4
      have k35 := HK3_6.out.cell 5
      have k36 := HK3_6.out.cell 6
      have k37 := HK3_6.out.cell 7
      simp only [List.getElem?_toArray, List.getElem?_cons_zero, List.getElem?_cons_succ] at k20 k30 k31 k32 k33 k34 k35 k36 k37
      go_wp2_with fail
      refine (allForm_any _ base g B _ p.protos _ HW_6.out (SlC.plain (HKEEP.out _ HT_6.out) HQ7.out (fun _ _ h => FormC.keep (HKEEP.out _ HT_6.out) h)) hB (by omega) HOK.out.o7 (by (try simp only [List.length_append]); omega)).mono ?_
      rintro e w7 ⟨rfl, h1, h2⟩
      have HW_7 := Lib.hid h1; have HT_7 := Lib.hid (HT_6.out.trans h2); have HTL_7 := Lib.hid (HTL_6.out.trans h2)
      have HK2_7 := Lib.hid (h2.blk HW_6.out HK2_6.out (by decide) hne2); have HK3_7 := Lib.hid (h2.blk HW_6.out HK3_6.out (by decide) hne3)
      clear h1 h2 k20 k30 k31 k32 k33 k34 k35 k36 k37
      have k20 := HK2_7.out.cell 0
      have k30 := HK3_7.out.cell 0
      have k31 := HK3_7.out.cell 1
      have k32 := HK3_7.out.cell 2
      have k33 := HK3_7.out.cell 3
      have k34 := HK3_7.out.cell 4
      have k35 := HK3_7.out.cell 5
      have k36 := HK3_7.out.cell 6
      have k37 := HK3_7.out.cell 7
      simp only [List.getElem?_toArray, List.getElem?_cons_zero, List.getElem?_cons_succ] at k20 k30 k31 k32 k33 k34 k35 k36 k37
      go_wp2_with fail
      refine (allEn_any _ base g w.heap.size B _ p.entries _ HW_7.out HK2_7.out (SlC.plain (HKEEP.out _ HT_7.out) HQ8.out (fun _ _ h => EnC.keep (HKEEP.out _ HT_7.out) h)) hB (by omega) HOK.out.o8 (by (try simp only [List.length_append]); omega)).mono ?_
      rintro e w8 ⟨rfl, h1, h2⟩
      have HW_8 := Lib.hid h1; have HT_8 := Lib.hid (HT_7.out.trans h2); have HTL_8 := Lib.hid (HTL_7.out.trans h2)
      have HK2_8 := Lib.hid (h2.blk HW_7.out HK2_7.out (by decide) hne2); have HK3_8 := Lib.hid (h2.blk HW_7.out HK3_7.out (by decide) hne3)
      clear h1 h2 k20 k30 k31 k32 k33 k34 k35 k36 k37
      go_wp2
      go_end0
      refine ⟨rfl, ?_, HT_8.out⟩
      have := HW_8.out
      simp only [List.append_assoc] at this
      exact this
end Go.Proofs.YtmepaeahchiglaaGreatDoor
