/-
  layer 43: Same, two times the same project. Conditions: projects that can be read. (Printed by pjsame3.py.)
-/
import Derived.Test.YtmepaeahchiglaaGreatDoorZbPjGs2
import Derived.Test.YtmepaeahchiglaaGreatDoorZbas
namespace Go.Proofs.YtmepaeahchiglaaGreatDoor
open Go.RowKit Go.Lib

set_option linter.unusedSimpArgs false in
set_option linter.unusedVariables false in
set_option maxRecDepth 20000 in
set_option maxHeartbeats 4000000 in
theorem eqForm_any (w : World) (B : Nat) (x : Fm) (cs cs' : List Value) (h : FormC w B x cs) (h' : FormC w B x cs') (hB : B ≤ w.heap.size) :
    Calls Tryz.prog 124 #[.agg cs.toArray, .agg cs'.toArray] w fun e w' => e = .returned (.bool true) ∧ Below w.heap.size w w' := by
  obtain ⟨v, rfl, hs⟩ := h
  obtain ⟨v', rfl, hs'⟩ := h'
  obtain ⟨A, n, c, rfl, hn⟩ := hs.form
  obtain ⟨A', n', c', rfl, hn'⟩ := hs'.form
  have hst := ((Below.refl w.heap.size w).alloc (Nat.le_refl _) (.cells #[.bool x.has, .slice A n c] 82)).alloc (by simp) (.cells #[.bool x.has, .slice A' n' c'] 82)
  have b1 := (Blk.new w 82 #[.bool x.has, .slice A n c]).alloc (.cells #[.bool x.has, .slice A' n' c'] 82)
  have b2 := Blk.new (w.alloc (.cells #[.bool x.has, .slice A n c] 82)) 82 #[.bool x.has, .slice A' n' c']
  rw [World.size_alloc] at b2
  obtain ⟨Z0, hZ0⟩ : ∃ Z, (w.alloc (.cells #[.bool x.has, .slice A n c] 82)).alloc (.cells #[.bool x.has, .slice A' n' c'] 82) = Z := ⟨_, rfl⟩
  have hsz0 : Z0.heap.size = w.heap.size + 1 + 1 := by rw [← hZ0]; simp
  rw [hZ0] at hst b1 b2
  obtain ⟨Ax, cx, ex, ⟨hx1, hx2⟩, hr⟩ := hs.flat
  obtain ⟨Ax', cx', ex', -, hr'⟩ := hs'.flat
  injection ex with e1 e2 e3
  injection ex' with e1' e2' e3'
  subst e1 e3 e1' e3'
  rw [← e2] at hr hx1
  rw [← e2'] at hr'
  have hcall := refEqual_any A A' n n' c c' B x.w x.w Z0 (Reads.below hr (hst.mono hB)) (Reads.below hr' (hst.mono hB)) (by omega) (by omega)
  rw [decide_eq_true rfl] at hcall
  have y0 := b1.cell 0; have y1 := b1.cell 1; have z0 := b2.cell 0; have z1 := b2.cell 1
  simp only [List.getElem?_toArray, List.getElem?_cons_zero, List.getElem?_cons_succ] at y0 y1 z0 z1
  have HZ0 := Lib.hid hZ0; have HST := Lib.hid hst; have HCALL := Lib.hid hcall
  clear hZ0 hst b1 b2 hs hs' hcall hn hn' e2 e2' hr hr' hx1 hx2
  show Calls _ _ #[.agg #[.bool x.has, .slice A n c], .agg #[.bool x.has, .slice A' n' c']] _ _
  go_enter Tryz.func124, Tryz.ntmps124
  go_wp2_with (rw [HZ0.out])
  refine HCALL.out.mono ?_
  rintro e w1 ⟨rfl, -, hb1⟩
  have HB1 := Lib.hid (HST.out.trans (hb1.mono (by omega)))
  clear hb1 y0 y1 z0 z1
  go_wp2
  go_ret
  exact ⟨rfl, HB1.out⟩
set_option linter.unusedSimpArgs false in
set_option linter.unusedVariables false in
set_option maxRecDepth 20000 in
set_option maxHeartbeats 4000000 in
theorem eqForms_any (w : World) (B : Nat) (l : List Fm) (v v' : Value) (h : SlC FormC 2 w B l v) (h' : SlC FormC 2 w B l v') (hB : B ≤ w.heap.size) :
    Calls Tryz.prog 123 #[v, v', .func (.func 124) #[] #[]] w fun e w' => e = .returned (.bool true) ∧ Below w.heap.size w w' := by
  obtain ⟨A, n, c, rfl, hn⟩ := h.form
  obtain ⟨A', n', c', rfl, hn'⟩ := h'.form
  obtain rfl : n' = n := by rw [hn, hn']
  obtain ⟨-, hm1, hm2⟩ := h.len
  unfold maxLen at hm2
  have HH := Lib.hid h; have HH' := Lib.hid h'; have HN := Lib.hid hn
  clear h h' hn hn'
  go_enter Tryz.func123, Tryz.ntmps123
  go_wp2
  go_loopw [17] (fun i wr => ∃ k : Nat, k ≤ n' ∧ i = .int .i64 k ∧ Below w.heap.size w wr) (fun i _ => n' - (RowKit.intOf i).toNat)
  case atStart => exact ⟨0, by omega, rfl, Below.refl _ _⟩
  case round =>
    obtain ⟨k, hk, rfl, hbw⟩ := hrel
    have HBW := Lib.hid hbw
    clear hbw
    by_cases hlt : k < n'
    · have hkl : k < l.length := by have := HN.out; omega
      have hkI : (k : Int) < (n' : Int) := by omega
      have hk0 : (0 : Int) ≤ (k : Int) := by omega
      obtain ⟨ad, cs, rfl, hP, hc0, hcc, -⟩ := SlC.at_ (fun x cs h => by obtain ⟨v, rfl, -⟩ := h; rfl) HH.out HBW.out hB hkl
      obtain ⟨ad', cs', rfl, hP', hc0', hcc', -⟩ := SlC.at_ (fun x cs h => by obtain ⟨v, rfl, -⟩ := h; rfl) HH'.out HBW.out hB hkl
      generalize l[k] = x at *
      have hb2 := (HBW.out.alloc HBW.out.size (.cells cs.toArray 82)).alloc (by rw [World.size_alloc]; have := HBW.out.size; omega) (.cells cs'.toArray 82)
      have hcall := eqForm_any ((wr.alloc (.cells cs.toArray 82)).alloc (.cells cs'.toArray 82)) B x cs cs' (FormC.keep (fun q hq => hb2.cell (p := q) (by omega)) hP) (FormC.keep (fun q hq => hb2.cell (p := q) (by omega)) hP') (by have := hb2.size; omega)
      obtain ⟨q, rfl, hq⟩ := hP
      obtain ⟨q', rfl, hq'⟩ := hP'
      obtain ⟨X, mx, cx, rfl, -⟩ := hq.form
      obtain ⟨X', mx', cx', rfl, -⟩ := hq'.form
      have e0 := hc0 _ rfl
      have d0 := hc0' _ rfl
      have e1 := hcc 0 _ rfl
      have d1 := hcc' 0 _ rfl
      have hs1 := Below.heap_alloc
      have f0 : (wr.alloc (.cells #[.bool x.has, .slice X mx cx] 82)).cell? (ad'.add (k * 2)) = some (.bool x.has) := by rw [World.cell?_alloc_lt _ _ _ (World.block_lt_of_cell? _ _ d0)]; exact d0
      have f1 : (wr.alloc (.cells #[.bool x.has, .slice X mx cx] 82)).cell? ⟨(ad'.add (k * 2)).block, (ad'.add (k * 2)).off + 1, none⟩ = some (.slice X' mx' cx') := by rw [World.cell?_alloc_lt _ _ _ (World.block_lt_of_cell? _ _ d1)]; exact d1
      have HCALL := Lib.hid hcall; have HB2 := Lib.hid hb2
      clear hc0 hcc hc0' hcc' hq hq' hcall hb2 hs1
      go_wp2_with fail
      refine HCALL.out.mono ?_
      rintro e w2 ⟨rfl, hb3⟩
      have HB3 := Lib.hid (HB2.out.trans (hb3.mono HB2.out.size))
      clear hb3 e0 d0 e1 d1 f0 f1
      go_wp2
      go_roundw
      case rel => exact ⟨k + 1, by omega, by go_num, HB3.out⟩
      case measure => simp [RowKit.intOf]; omega
    · obtain rfl : k = n' := by omega
      go_wp2
      go_ret
      exact ⟨rfl, HBW.out⟩
set_option linter.unusedSimpArgs false in
set_option linter.unusedVariables false in
set_option maxRecDepth 20000 in
set_option maxHeartbeats 4000000 in
theorem sameForms_any (w : World) (B : Nat) (l : List Fm) (v v' : Value) (h : SlC FormC 2 w B l v) (h' : SlC FormC 2 w B l v') (hB : B ≤ w.heap.size) :
    Calls Tryz.prog 55 #[v, v'] w fun e w' => e = .returned (.bool true) ∧ Below w.heap.size w w' := by
  have hcall := eqForms_any w B l v v' h h' hB
  obtain ⟨A, n, c, rfl, hn⟩ := h.form
  obtain ⟨A', n', c', rfl, hn'⟩ := h'.form
  clear h h' hn hn'
  go_enter Tryz.func55, Tryz.ntmps55
  go_wp2_with fail
  refine hcall.mono ?_
  rintro e w1 ⟨rfl, hb1⟩
  have H1 := Lib.hid hb1
  clear hb1 hcall
  go_wp2
  go_ret
  exact ⟨rfl, H1.out⟩
set_option linter.unusedSimpArgs false in
set_option linter.unusedVariables false in
set_option maxRecDepth 20000 in
set_option maxHeartbeats 4000000 in
theorem eqEntry_any (w : World) (B : Nat) (x : En) (cs cs' : List Value) (h : EnC w B x cs) (h' : EnC w B x cs') (hB : B ≤ w.heap.size) :
    Calls Tryz.prog 54 #[.agg cs.toArray, .agg cs'.toArray] w fun e w' => e = .returned (.bool true) ∧ Below w.heap.size w w' := by
  obtain ⟨v, rfl, hs⟩ := h
  obtain ⟨v', rfl, hs'⟩ := h'
  obtain ⟨A, n, c, rfl, hn⟩ := hs.form
  obtain ⟨A', n', c', rfl, hn'⟩ := hs'.form
  have hst := ((Below.refl w.heap.size w).alloc (Nat.le_refl _) (.cells #[.string x.gloss, .slice A n c] 84)).alloc (by simp) (.cells #[.string x.gloss, .slice A' n' c'] 84)
  have b1 := (Blk.new w 84 #[.string x.gloss, .slice A n c]).alloc (.cells #[.string x.gloss, .slice A' n' c'] 84)
  have b2 := Blk.new (w.alloc (.cells #[.string x.gloss, .slice A n c] 84)) 84 #[.string x.gloss, .slice A' n' c']
  rw [World.size_alloc] at b2
  obtain ⟨Z0, hZ0⟩ : ∃ Z, (w.alloc (.cells #[.string x.gloss, .slice A n c] 84)).alloc (.cells #[.string x.gloss, .slice A' n' c'] 84) = Z := ⟨_, rfl⟩
  have hsz0 : Z0.heap.size = w.heap.size + 1 + 1 := by rw [← hZ0]; simp
  rw [hZ0] at hst b1 b2
  have hcall := sameForms_any Z0 B x.forms _ _ (hs.mv hst hB fun _ _ h => FormC.keep (fun q hq => hst.cell (p := q) (by omega)) h) (hs'.mv hst hB fun _ _ h => FormC.keep (fun q hq => hst.cell (p := q) (by omega)) h) (by omega)
  have y0 := b1.cell 0; have y1 := b1.cell 1; have z0 := b2.cell 0; have z1 := b2.cell 1
  simp only [List.getElem?_toArray, List.getElem?_cons_zero, List.getElem?_cons_succ] at y0 y1 z0 z1
  have HZ0 := Lib.hid hZ0; have HST := Lib.hid hst; have HCALL := Lib.hid hcall
  clear hZ0 hst b1 b2 hs hs' hcall hn hn' 
  show Calls _ _ #[.agg #[.string x.gloss, .slice A n c], .agg #[.string x.gloss, .slice A' n' c']] _ _
  go_enter Tryz.func54, Tryz.ntmps54
  go_wp2_with (rw [HZ0.out])
  refine HCALL.out.mono ?_
  rintro e w1 ⟨rfl, hb1⟩
  have HB1 := Lib.hid (HST.out.trans (hb1.mono (by omega)))
  clear hb1 y0 y1 z0 z1
  go_wp2
  go_ret
  exact ⟨rfl, HB1.out⟩
set_option linter.unusedSimpArgs false in
set_option linter.unusedVariables false in
set_option maxRecDepth 20000 in
set_option maxHeartbeats 4000000 in
theorem eqEntries_any (w : World) (B : Nat) (l : List En) (v v' : Value) (h : SlC EnC 2 w B l v) (h' : SlC EnC 2 w B l v') (hB : B ≤ w.heap.size) :
    Calls Tryz.prog 53 #[v, v', .func (.func 54) #[] #[]] w fun e w' => e = .returned (.bool true) ∧ Below w.heap.size w w' := by
  obtain ⟨A, n, c, rfl, hn⟩ := h.form
  obtain ⟨A', n', c', rfl, hn'⟩ := h'.form
  obtain rfl : n' = n := by rw [hn, hn']
  obtain ⟨-, hm1, hm2⟩ := h.len
  unfold maxLen at hm2
  have HH := Lib.hid h; have HH' := Lib.hid h'; have HN := Lib.hid hn
  clear h h' hn hn'
  go_enter Tryz.func53, Tryz.ntmps53
  go_wp2
  go_loopw [17] (fun i wr => ∃ k : Nat, k ≤ n' ∧ i = .int .i64 k ∧ Below w.heap.size w wr) (fun i _ => n' - (RowKit.intOf i).toNat)
  case atStart => exact ⟨0, by omega, rfl, Below.refl _ _⟩
  case round =>
    obtain ⟨k, hk, rfl, hbw⟩ := hrel
    have HBW := Lib.hid hbw
    clear hbw
    by_cases hlt : k < n'
    · have hkl : k < l.length := by have := HN.out; omega
      have hkI : (k : Int) < (n' : Int) := by omega
      have hk0 : (0 : Int) ≤ (k : Int) := by omega
      obtain ⟨ad, cs, rfl, hP, hc0, hcc, -⟩ := SlC.at_ (fun x cs h => by obtain ⟨v, rfl, -⟩ := h; rfl) HH.out HBW.out hB hkl
      obtain ⟨ad', cs', rfl, hP', hc0', hcc', -⟩ := SlC.at_ (fun x cs h => by obtain ⟨v, rfl, -⟩ := h; rfl) HH'.out HBW.out hB hkl
      generalize l[k] = x at *
      have hb2 := (HBW.out.alloc HBW.out.size (.cells cs.toArray 84)).alloc (by rw [World.size_alloc]; have := HBW.out.size; omega) (.cells cs'.toArray 84)
      have hcall := eqEntry_any ((wr.alloc (.cells cs.toArray 84)).alloc (.cells cs'.toArray 84)) B x cs cs' (EnC.keep (fun q hq => hb2.cell (p := q) (by omega)) hP) (EnC.keep (fun q hq => hb2.cell (p := q) (by omega)) hP') (by have := hb2.size; omega)
      obtain ⟨q, rfl, hq⟩ := hP
      obtain ⟨q', rfl, hq'⟩ := hP'
      obtain ⟨X, mx, cx, rfl, -⟩ := hq.form
      obtain ⟨X', mx', cx', rfl, -⟩ := hq'.form
      have e0 := hc0 _ rfl
      have d0 := hc0' _ rfl
      have e1 := hcc 0 _ rfl
      have d1 := hcc' 0 _ rfl
      have hs1 := Below.heap_alloc
      have f0 : (wr.alloc (.cells #[.string x.gloss, .slice X mx cx] 84)).cell? (ad'.add (k * 2)) = some (.string x.gloss) := by rw [World.cell?_alloc_lt _ _ _ (World.block_lt_of_cell? _ _ d0)]; exact d0
      have f1 : (wr.alloc (.cells #[.string x.gloss, .slice X mx cx] 84)).cell? ⟨(ad'.add (k * 2)).block, (ad'.add (k * 2)).off + 1, none⟩ = some (.slice X' mx' cx') := by rw [World.cell?_alloc_lt _ _ _ (World.block_lt_of_cell? _ _ d1)]; exact d1
      have HCALL := Lib.hid hcall; have HB2 := Lib.hid hb2
      clear hc0 hcc hc0' hcc' hq hq' hcall hb2 hs1
      go_wp2_with fail
      refine HCALL.out.mono ?_
      rintro e w2 ⟨rfl, hb3⟩
      have HB3 := Lib.hid (HB2.out.trans (hb3.mono HB2.out.size))
      clear hb3 e0 d0 e1 d1 f0 f1
      go_wp2
      go_roundw
      case rel => exact ⟨k + 1, by omega, by go_num, HB3.out⟩
      case measure => simp [RowKit.intOf]; omega
    · obtain rfl : k = n' := by omega
      go_wp2
      go_ret
      exact ⟨rfl, HBW.out⟩
set_option linter.unusedSimpArgs false in
set_option linter.unusedVariables false in
set_option maxRecDepth 20000 in
set_option maxHeartbeats 8000000 in
theorem samePj_any (w : World) (B : Nat) (p : Pj) (cs cs' : List Value) (h : ProjC w B p cs) (h' : ProjC w B p cs') (hB : B ≤ w.heap.size) (hnm : ∀ x ∈ p.laws, x.name.size ≤ maxLen) :
    Calls Tryz.prog 17 #[.agg cs.toArray, .agg cs'.toArray] w fun e w' => e = .returned (.bool true) ∧ Below w.heap.size w w' := by
  obtain ⟨v1, v2, v3, v4, v5, v6, v7, v8, rfl, q1, q2, q3, q4, q5, q6, q7, q8⟩ := h
  obtain ⟨v1', v2', v3', v4', v5', v6', v7', v8', rfl, q1', q2', q3', q4', q5', q6', q7', q8'⟩ := h'
  obtain ⟨A1, n1, c1, rfl, -⟩ := q1.form
  obtain ⟨A1', m1', c1', rfl, -⟩ := q1'.form
  obtain ⟨A2, n2, c2, rfl, -⟩ := q2.form
  obtain ⟨A2', m2', c2', rfl, -⟩ := q2'.form
  obtain ⟨A3, n3, c3, rfl, -⟩ := q3.form
  obtain ⟨A3', m3', c3', rfl, -⟩ := q3'.form
  obtain ⟨A4, n4, c4, rfl, -⟩ := q4.form
  obtain ⟨A4', m4', c4', rfl, -⟩ := q4'.form
  obtain ⟨A5, n5, c5, rfl, -⟩ := q5.form
  obtain ⟨A5', m5', c5', rfl, -⟩ := q5'.form
  obtain ⟨A6, n6, c6, rfl, -⟩ := q6.form
  obtain ⟨A6', m6', c6', rfl, -⟩ := q6'.form
  obtain ⟨A7, n7, c7, rfl, -⟩ := q7.form
  obtain ⟨A7', m7', c7', rfl, -⟩ := q7'.form
  obtain ⟨A8, n8, c8, rfl, -⟩ := q8.form
  obtain ⟨A8', m8', c8', rfl, -⟩ := q8'.form
  have hst := ((Below.refl w.heap.size w).alloc (Nat.le_refl _) (.cells #[.slice A1 n1 c1, .slice A2 n2 c2, .slice A3 n3 c3, .slice A4 n4 c4, .slice A5 n5 c5, .slice A6 n6 c6, .slice A7 n7 c7, .slice A8 n8 c8] 33)).alloc (by simp) (.cells #[.slice A1' m1' c1', .slice A2' m2' c2', .slice A3' m3' c3', .slice A4' m4' c4', .slice A5' m5' c5', .slice A6' m6' c6', .slice A7' m7' c7', .slice A8' m8' c8'] 33)
  have b1 := (Blk.new w 33 #[.slice A1 n1 c1, .slice A2 n2 c2, .slice A3 n3 c3, .slice A4 n4 c4, .slice A5 n5 c5, .slice A6 n6 c6, .slice A7 n7 c7, .slice A8 n8 c8]).alloc (.cells #[.slice A1' m1' c1', .slice A2' m2' c2', .slice A3' m3' c3', .slice A4' m4' c4', .slice A5' m5' c5', .slice A6' m6' c6', .slice A7' m7' c7', .slice A8' m8' c8'] 33)
  have b2 := Blk.new (w.alloc (.cells #[.slice A1 n1 c1, .slice A2 n2 c2, .slice A3 n3 c3, .slice A4 n4 c4, .slice A5 n5 c5, .slice A6 n6 c6, .slice A7 n7 c7, .slice A8 n8 c8] 33)) 33 #[.slice A1' m1' c1', .slice A2' m2' c2', .slice A3' m3' c3', .slice A4' m4' c4', .slice A5' m5' c5', .slice A6' m6' c6', .slice A7' m7' c7', .slice A8' m8' c8']
  rw [World.size_alloc] at b2
  obtain ⟨Z0, hZ0⟩ : ∃ Z, (w.alloc (.cells #[.slice A1 n1 c1, .slice A2 n2 c2, .slice A3 n3 c3, .slice A4 n4 c4, .slice A5 n5 c5, .slice A6 n6 c6, .slice A7 n7 c7, .slice A8 n8 c8] 33)).alloc (.cells #[.slice A1' m1' c1', .slice A2' m2' c2', .slice A3' m3' c3', .slice A4' m4' c4', .slice A5' m5' c5', .slice A6' m6' c6', .slice A7' m7' c7', .slice A8' m8' c8'] 33) = Z := ⟨_, rfl⟩
  have hsz0 : Z0.heap.size = w.heap.size + 1 + 1 := by rw [← hZ0]; simp
  rw [hZ0] at hst b1 b2
  have hk : ∀ W : World, Below Z0.heap.size Z0 W → Below w.heap.size w W := fun W hW => hst.trans (hW.mono (by omega))
  have hsz : ∀ W : World, Below Z0.heap.size Z0 W → B ≤ W.heap.size := fun W hW => by have := hW.size; omega
  have k8 := fun W (hW : Below Z0.heap.size Z0 W) => eqEntries_any W B p.entries _ _ (q8.mv (hk W hW) hB fun _ _ h => EnC.keep (fun q hq => (hk W hW).cell (p := q) (by omega)) h) (q8'.mv (hk W hW) hB fun _ _ h => EnC.keep (fun q hq => (hk W hW).cell (p := q) (by omega)) h) (hsz W hW)
  have k1 := fun W (hW : Below Z0.heap.size Z0 W) => eqStr_any W B p.feats _ _ (q1.mv (hk W hW) hB fun _ _ h => h) (q1'.mv (hk W hW) hB fun _ _ h => h) (hsz W hW)
  have k2 := fun W (hW : Below Z0.heap.size Z0 W) => eqNam_any W B p.sounds _ _ (q2.mv (hk W hW) hB fun _ _ h => h) (q2'.mv (hk W hW) hB fun _ _ h => h) (hsz W hW)
  have k3 := fun W (hW : Below Z0.heap.size Z0 W) => eqMk_any W B p.marks _ _ (q3.mv (hk W hW) hB fun _ _ h => h) (q3'.mv (hk W hW) hB fun _ _ h => h) (hsz W hW)
  have k4 := fun W (hW : Below Z0.heap.size Z0 W) => sameHist_any W B p.tree p.laws p.on _ _ _ _ _ _ (q4.mv (hk W hW) hB fun _ _ h => h) (q5.mv (hk W hW) hB fun _ _ h => h.below ((hk W hW).mono hB)) (q6.mv (hk W hW) hB fun _ _ h => OnC.keep (fun q hq => (hk W hW).cell (p := q) (by omega)) h) (q4'.mv (hk W hW) hB fun _ _ h => h) (q5'.mv (hk W hW) hB fun _ _ h => h.below ((hk W hW).mono hB)) (q6'.mv (hk W hW) hB fun _ _ h => OnC.keep (fun q hq => (hk W hW).cell (p := q) (by omega)) h) (hsz W hW) hnm
  have k7 := fun W (hW : Below Z0.heap.size Z0 W) => sameForms_any W B p.protos _ _ (q7.mv (hk W hW) hB fun _ _ h => FormC.keep (fun q hq => (hk W hW).cell (p := q) (by omega)) h) (q7'.mv (hk W hW) hB fun _ _ h => FormC.keep (fun q hq => (hk W hW).cell (p := q) (by omega)) h) (hsz W hW)
  have y5 := (b1).cell 5
  have y7 := (b1).cell 7
  have z5 := (b2).cell 5
  have z7 := (b2).cell 7
  simp only [List.getElem?_toArray, List.getElem?_cons_zero, List.getElem?_cons_succ] at y5 y7 z5 z7
  have HZ0 := Lib.hid hZ0; have HST := Lib.hid hst; have HB1 := Lib.hid b1; have HB2 := Lib.hid b2; have K8 := Lib.hid k8; have K1 := Lib.hid k1; have K2 := Lib.hid k2; have K3 := Lib.hid k3; have K4 := Lib.hid k4; have K7 := Lib.hid k7
  clear hZ0 hst b1 b2 k8 k1 k2 k3 k4 k7 hk hsz hnm q1 q2 q3 q4 q5 q6 q7 q8 q1' q2' q3' q4' q5' q6' q7' q8'
  show Calls _ _ #[.agg #[.slice A1 n1 c1, .slice A2 n2 c2, .slice A3 n3 c3, .slice A4 n4 c4, .slice A5 n5 c5, .slice A6 n6 c6, .slice A7 n7 c7, .slice A8 n8 c8], .agg #[.slice A1' m1' c1', .slice A2' m2' c2', .slice A3' m3' c3', .slice A4' m4' c4', .slice A5' m5' c5', .slice A6' m6' c6', .slice A7' m7' c7', .slice A8' m8' c8']] _ _
  go_enter Tryz.func17, Tryz.ntmps17
  go_wp2_with (rw [HZ0.out])
  refine (K8.out Z0 (Below.refl _ _)).mono ?_
  rintro e w0 ⟨rfl, hb0⟩
  have H0 := Lib.hid hb0
  clear hb0 y5 y7 z5 z7
  have y0 := (HB1.out.below H0.out (by omega)).cell 0
  have z0 := (HB2.out.below H0.out (by omega)).cell 0
  simp only [List.getElem?_toArray, List.getElem?_cons_zero, List.getElem?_cons_succ] at y0 z0
  go_wp2_with fail
  refine (K1.out _ H0.out).mono ?_
  rintro e w1 ⟨rfl, hb0⟩
  have H1 := Lib.hid (H0.out.trans (hb0.mono H0.out.size))
  clear hb0 y0 z0
  have y1 := (HB1.out.below H1.out (by omega)).cell 1
  have z1 := (HB2.out.below H1.out (by omega)).cell 1
  simp only [List.getElem?_toArray, List.getElem?_cons_zero, List.getElem?_cons_succ] at y1 z1
  go_wp2_with fail
  refine (K2.out _ H1.out).mono ?_
  rintro e w2 ⟨rfl, hb0⟩
  have H2 := Lib.hid (H1.out.trans (hb0.mono H1.out.size))
  clear hb0 y1 z1
  have y2 := (HB1.out.below H2.out (by omega)).cell 2
  have z2 := (HB2.out.below H2.out (by omega)).cell 2
  simp only [List.getElem?_toArray, List.getElem?_cons_zero, List.getElem?_cons_succ] at y2 z2
  go_wp2_with fail
  refine (K3.out _ H2.out).mono ?_
  rintro e w3 ⟨rfl, hb0⟩
  have H3 := Lib.hid (H2.out.trans (hb0.mono H2.out.size))
  clear hb0 y2 z2
  have y3 := (HB1.out.below H3.out (by omega)).cell 3
  have y4 := (HB1.out.below H3.out (by omega)).cell 4
  have y5 := (HB1.out.below H3.out (by omega)).cell 5
  have z3 := (HB2.out.below H3.out (by omega)).cell 3
  have z4 := (HB2.out.below H3.out (by omega)).cell 4
  have z5 := (HB2.out.below H3.out (by omega)).cell 5
  simp only [List.getElem?_toArray, List.getElem?_cons_zero, List.getElem?_cons_succ] at y3 y4 y5 z3 z4 z5
  go_wp2_with fail
  refine (K4.out _ H3.out).mono ?_
  rintro e w4 ⟨rfl, hb0⟩
  have H4 := Lib.hid (H3.out.trans (hb0.mono H3.out.size))
  clear hb0 y3 y4 y5 z3 z4 z5
  have y6 := (HB1.out.below H4.out (by omega)).cell 6
  have z6 := (HB2.out.below H4.out (by omega)).cell 6
  simp only [List.getElem?_toArray, List.getElem?_cons_zero, List.getElem?_cons_succ] at y6 z6
  go_wp2_with fail
  refine (K7.out _ H4.out).mono ?_
  rintro e w5 ⟨rfl, hb0⟩
  have H5 := Lib.hid (H4.out.trans (hb0.mono H4.out.size))
  clear hb0 y6 z6
  go_wp2
  go_ret
  exact ⟨rfl, HST.out.trans (H5.out.mono (by omega))⟩
end Go.Proofs.YtmepaeahchiglaaGreatDoor
