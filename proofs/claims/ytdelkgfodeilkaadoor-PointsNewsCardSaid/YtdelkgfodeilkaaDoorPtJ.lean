/-
  layer 36: slices.AppendSeq and slices.Collect over where; Within. Conditions: nil, or a map that New made (or the zero one).
-/
import Derived.Test.YtdelkgfodeilkaaDoorPtI
import Derived.Sort.OwnSorted
import Derived.Test.YtdelkgfodeilkaaDoorTurn
namespace Go.Proofs.YtdelkgfodeilkaaDoor
open Go.RowKit Go.Shelf Go.Lib
attribute [local go_sem] Oper.semAt_some

theorem below_alloc_ {n : Nat} (W : World) (o : Obj) (h : n ≤ W.heap.size) : Below n W (W.alloc o) := (Below.refl n W).alloc h o
set_option maxRecDepth 20000 in
set_option maxHeartbeats 4000000 in
theorem appendSeqW (g : Nat) (M : Pts) (bm bi fi : Nat) (lb : Array Value) (n : Nat) (p : Nat → Bool) (w : World) (hM : MapAt w g M) (hn : M.names.length = n) (hn2 : n ≤ 128) (hbm : Blk w bm 27 #[.pointer (some ⟨g, 0, none⟩)])
    (hbi : Blk w bi 83 #[.func (.func fi) #[] lb]) (ei : ∀ args w, (callFunc fi args).run Tryd.prog w = .ok (.enter fi args) w) (hif : IsFn fi lb n p w) :
    Calls Tryd.prog 78 #[.slice none 0 0, .func (.func 77) #[] #[.pointer (some ⟨bm, 0, none⟩), .pointer (some ⟨bi, 0, none⟩)]] w (GivesI w ((selL n p).map fun (x : Nat) => (x : Int))) := by
  obtain ⟨i0, hi, hz0, hz1, hz2⟩ := info_parts (show (Tryd.prog.info? 3).map (fun i => (i.zero, i.size, i.bytes)) = some (some (.int .i64 0), 1, 8) by kernel_rfl)
  refine (callsIn_wide (n := 4)).1 ?_
  refine callsIn_of_wp_marks Tryd.func78 rfl trivial ?_ rfl
  simp only [Tryd.ntmps78, List.size_toArray, List.length_cons, List.length_nil, Nat.reduceAdd, Nat.reduceSub, Array.replicate_succ, Array.replicate_zero, List.push_toArray, List.append_toArray, List.nil_append, List.cons_append]
  have hit := iterB g M bm bi fi lb n p w hM hn hn2 hbm hbi ei hif
  have k0 : Blk (w.alloc (.cells #[.slice none 0 0] 36)) w.heap.size 36 #[.slice none 0 0] := Blk.new w _ _
  have hb0 : Below w.heap.size w (w.alloc (.cells #[.slice none 0 0] 36)) := (Below.refl _ w).alloc (Nat.le_refl _) _
  have hsz : (w.alloc (.cells #[.slice none 0 0] 36)).heap.size = w.heap.size + 1 := World.size_alloc _ _
  clear hM hbm hbi hif hn ei
  gi_wp2
  generalize w.alloc (.cells #[.slice none 0 0] 36) = W0 at *
  refine range_law (gf := 77) (lb := #[.pointer (some ⟨bm, 0, none⟩), .pointer (some ⟨bi, 0, none⟩)]) rfl (enters_of Tryd.func77 (by kernel_rfl) rfl) hit (fun r h => h.elim)
    (fun h k => fun a => k (h a)) (fun W l o o' hl h _ => fun a => a.trans (below_put (by omega) h)) hb0 (fun _ => rfl)
    (fun pre W => (∃ v, Blk W w.heap.size 36 #[v] ∧ W.ownsRow (w.heap.size + 1) 3 1 v pre.length (nats (pre.map Fin.val))) ∧ Below w.heap.size w W)
    (fun _ _ _ => False)
    ?hI ?hIx ?h0 (fun x => { tmps := #[.slice none 0 0, .func (.func 77) #[] #[.pointer (some ⟨bm, 0, none⟩), .pointer (some ⟨bi, 0, none⟩)], .pointer (some ⟨w.heap.size, 0, none⟩), undef, .slice none 0 0, .int .i64 (x.val : Int), .func (.func 77) #[] #[.pointer (some ⟨bm, 0, none⟩), .pointer (some ⟨bi, 0, none⟩)], .int .i64 (x.val : Int), undef, undef, undef, undef, undef], defers := [] }) ?assign ?body ?done ?stop
  case hI =>
    refine AbidesB.and ?_ (abides_below (by omega) (by omega) (fun r h => h.elim))
    rintro pre A B row ⟨v, h1, h2⟩ hg hr
    exact ⟨v, h1.turn hg hr (fun h => h), own_turn h2 hg hr (fun r h => h.elim)⟩
  case hIx => exact fun c s W W' row h _ _ => h
  case h0 => exact ⟨⟨_, k0, World.ownsRow_nil _ _ _ _⟩, hb0⟩
  case assign =>
    intro l x W K hK
    gi_wp2
    exact hK
  case body =>
    rintro l pre x W hWsz ⟨⟨v, hv, hrow⟩, hB⟩ hlen
    have c2 := hv.cell 0
    have f2 := hv.frozen 0
    simp only [List.getElem?_toArray, List.getElem?_cons_zero] at c2
    obtain ⟨Av, cv, rfl, hcv1, hcv2⟩ := ownsRow_form hrow
    gi_wp2_with (gi_at_builtin; refine wpListIn_append_own _ rfl _ _ 36 rfl (w.heap.size + 1) 3 i0 (.int .i64 0) 1 8 Tryd.underlying36 hi hz0 hz1 hz2 rfl (by decide) _ _ _ rfl (hrow.alloc _) ⟨W.heap.size, 0, none⟩ 1 1 [.int .i64 (x.val : Int)] rfl rfl (cell_one_new _ _ _) (by simp [Value.oneCell']) (by unfold maxLen; omega) (by omega) (by simp; omega) ?_; intro v' w1 hown' hgrow _; obtain ⟨A2, c2', rfl, _, _⟩ := ownsRow_form hown'; have hv1 := (hv.alloc (.cells #[.int .i64 (x.val : Int)] 3)).grown hgrow (fun e => by have := (hrow.lt _ e.symm).1; omega); have hc3 := (hv1.cell 0); simp only [List.getElem?_toArray, List.getElem?_cons_zero] at hc3; have hf3 := hv1.frozen 0)
    have hcell := own_cells (hrow.alloc (.cells #[.int .i64 (x.val : Int)] 3))
    have hlow := fun g hg => (hrow.lt g hg).1
    have hB1 := ((hB.alloc hB.size (.cells #[.int .i64 (x.val : Int)] 3)).grown hgrow (by simp; omega) (fun g hg => by have := hlow g hg; omega))
    have hK0 : Below w.heap.size W (W.alloc (.cells #[.int .i64 (x.val : Int)] 3)) := below_alloc_ W _ (by omega)
    have hK1 : Below w.heap.size W w1 := hK0.grown hgrow (by simp; omega) (fun g hg => by have := hlow g hg; omega)
    refine ⟨((KeepsOthers.alloc _ _).trans (KeepsOthers.of_grownBy hgrow hcell)).trans (KeepsOthers.setCell _ _ _), ?_, ⟨_, hv1.set_ 0 _, ?_⟩, hB1.setCell (p := ⟨w.heap.size, 0, none⟩) (Nat.le_refl _) _⟩
    · exact fun a => a.trans (hK1.setCell (p := ⟨w.heap.size, 0, none⟩) (Nat.le_refl _) _)
    · have := ownsRow_setCell_below (hown') (a := ⟨w.heap.size, 0, none⟩) (by simp) (.slice A2 (pre.length + 1) c2')
      simpa [nats] using this
  case done =>
    rintro D xs W hD hxs ⟨⟨v, hv, hrow⟩, hB⟩ hK
    have ho := ownsRow_putObj hrow (.deferred none) hK rfl
    have hBo := hB.trans (below_put (n := w.heap.size) (o' := .deferred none) (show w.heap.size ≤ D by omega) hK)
    have c2 := hv.cell 0
    simp only [List.getElem?_toArray, List.getElem?_cons_zero] at c2
    gi_wp2
    refine ⟨by simp, .inl ⟨_, _, rfl, run_takeDeferred hK, ?_⟩⟩
    generalize W.putObj D (.deferred none) = WF at *
    refine ⟨v, by simp [results, Tryd.results78, go_sem], ?_⟩
    rw [← hxs]
    exact ⟨_, rfl, by rw [List.length_map, List.length_map, ← nats_eq]; exact own_mono ho (Nat.le_succ _), hBo⟩
  case stop =>
    rintro D c pre W hD hpre h hK
    exact h.elim
theorem collectW (g : Nat) (M : Pts) (bm bi fi : Nat) (lb : Array Value) (n : Nat) (p : Nat → Bool) (w : World) (hM : MapAt w g M) (hn : M.names.length = n) (hn2 : n ≤ 128) (hbm : Blk w bm 27 #[.pointer (some ⟨g, 0, none⟩)])
    (hbi : Blk w bi 83 #[.func (.func fi) #[] lb]) (ei : ∀ args w, (callFunc fi args).run Tryd.prog w = .ok (.enter fi args) w) (hif : IsFn fi lb n p w) :
    Calls Tryd.prog 52 #[.func (.func 77) #[] #[.pointer (some ⟨bm, 0, none⟩), .pointer (some ⟨bi, 0, none⟩)]] w (GivesI w ((selL n p).map fun (x : Nat) => (x : Int))) := by
  have h := appendSeqW g M bm bi fi lb n p w hM hn hn2 hbm hbi ei hif
  go_enter Tryd.func52, Tryd.ntmps52
  go_wp2_with fail
  refine h.mono ?_
  rintro e w1 ⟨v, rfl, ho, hb⟩
  go_wp2
  go_ret
  exact ⟨v, rfl, ho, hb⟩
theorem where_any (p : Option Addr) (fi : Nat) (lb : Array Value) (w : World) : Calls Tryd.prog 50 #[.pointer p, .func (.func fi) #[] lb] w fun e w' => e = .returned (.func (.func 77) #[] #[.pointer (some ⟨w.heap.size, 0, none⟩), .pointer (some ⟨w.heap.size + 1, 0, none⟩)]) ∧ w' = (w.alloc (.cells #[.pointer p] 27)).alloc (.cells #[.func (.func fi) #[] lb] 83) := by
  go_enter Tryd.func50, Tryd.ntmps50
  go_wp2
  go_ret
  exact ⟨rfl, rfl⟩
set_option maxRecDepth 20000 in
theorem within1_fn {N b q b5 : Nat} (r : Nat → Int) (d : Int) (w : World) (hb : Blk w b 63 #[.slice (some ⟨q, 0, none⟩) N N]) (hq : Blk w q 2 (rowA N r).toArray) (h5 : Blk w b5 2 #[.int .i64 d]) :
    IsFn 53 #[.pointer (some ⟨b, 0, none⟩), .pointer (some ⟨b5, 0, none⟩)] N (fun x => decide (0 ≤ r x) && decide (r x ≤ d)) w := by
  intro W x hx hW
  show Calls Tryd.prog 53 #[.int .i64 (x : Int), .pointer (some ⟨b, 0, none⟩), .pointer (some ⟨b5, 0, none⟩)] W fun e w' => e = .returned (.bool (decide (0 ≤ r x) && decide (r x ≤ d))) ∧ ∃ k, w' = W.drewN k
  have kb := (hb.below hW hb.lt).cell 0
  have kq := row_cell (hq.below hW hq.lt) hx
  have k5 := (h5.below hW h5.lt).cell 0
  simp only [List.getElem?_toArray, List.getElem?_cons_zero] at kb k5
  have hxI : (x : Int) < (N : Int) := by omega
  clear hb hq h5 hW
  by_cases h0 : 0 ≤ r x
  · rw [decide_eq_true h0, Bool.true_and]
    have h0' : decide (0 ≤ r x) = true := decide_eq_true h0
    go_enter Tryd.func53, Tryd.ntmps53
    go_wp2
    go_region
    go_wp2
    go_ret
    exact ⟨rfl, 1, rfl⟩
  · rw [decide_eq_false h0, Bool.false_and]
    have h0' : decide (0 ≤ r x) = false := decide_eq_false h0
    go_enter Tryd.func53, Tryd.ntmps53
    go_wp2
    go_region
    go_wp2
    go_ret
    exact ⟨rfl, 1, rfl⟩
set_option maxRecDepth 20000 in
theorem labels1_fn {N b q : Nat} (r : Nat → Int) (w : World) (hb : Blk w b 63 #[.slice (some ⟨q, 0, none⟩) N N]) (hq : Blk w q 2 (rowA N r).toArray) :
    IsFn 51 #[.pointer (some ⟨b, 0, none⟩)] N (fun x => decide (0 ≤ r x)) w := by
  intro W x hx hW
  show Calls Tryd.prog 51 #[.int .i64 (x : Int), .pointer (some ⟨b, 0, none⟩)] W fun e w' => e = .returned (.bool (decide (0 ≤ r x))) ∧ ∃ k, w' = W.drewN k
  have kb := (hb.below hW hb.lt).cell 0
  have kq := row_cell (hq.below hW hq.lt) hx
  simp only [List.getElem?_toArray, List.getElem?_cons_zero] at kb
  have hxI : (x : Int) < (N : Int) := by omega
  clear hb hq hW
  go_enter Tryd.func51, Tryd.ntmps51
  go_wp2
  go_ret
  exact ⟨rfl, 0, rfl⟩
noncomputable def withinO : Option Pts → Int → Int → List Int
  | none, _, _ => []
  | some M, a, d => withinS M a d
theorem withinO_out {om : Option Pts} {a d : Int} (h : ¬ inO om a) : withinO om a d = [] := by
  cases om with
  | none => rfl
  | some M => show withinS M a d = _; unfold withinS; exact if_neg h
theorem withinO_in {M : Pts} {a : Nat} {d : Int} (ha : a < M.names.length) : withinO (some M) a d = (selL M.names.length fun x => decide (0 ≤ distM M a x) && decide (distM M a x ≤ d)).map (fun (x : Nat) => (x : Int)) := by
  show withinS M a d = _
  unfold withinS
  rw [if_pos ⟨by omega, by show (a : Int) < (M.names.length : Int); omega⟩, Int.toNat_natCast]
  rfl
set_option maxRecDepth 20000 in
set_option maxHeartbeats 2000000 in
theorem withinP_any (p : Option Addr) (om : Option Pts) (a d : Int) (w : World) (h : MapO w p om) (hG : GoodO om) :
    Calls Tryd.prog 19 #[.pointer p, .int .i64 a, .int .i64 d] w (GivesI w (withinO om a d)) := by
  have hbx : Below w.heap.size w (w.alloc (.cells #[.int .i64 d] 2)) := (Below.refl _ w).alloc (Nat.le_refl _) _
  have h' := h.below hbx
  by_cases ha : inO om a
  · have h1 := hasP_yes h' ha
    obtain ⟨g, M, k, rfl, rfl, hM, hGM, rfl, hk⟩ := inO_open h' hG ha
    rw [withinO_in hk]
    have hf := from_any g M k _ hM hGM hk
    have hfew := hGM.few
    unfold RowPost at hf
    obtain ⟨n, hn⟩ : ∃ n, M.names.length = n := ⟨_, rfl⟩
    obtain ⟨pr, hpr⟩ : ∃ pr : Nat → Bool, (fun x => decide (0 ≤ distM M k x) && decide (distM M k x ≤ d)) = pr := ⟨_, rfl⟩
    rw [hn] at hf hfew ⊢
    rw [hpr]
    have hfn := fun (b q b5 : Nat) (w : World) hb hq h5 => within1_fn (N := n) (b := b) (q := q) (b5 := b5) (distM M k) d w hb hq h5
    rw [hpr] at hfn
    have hd := Blk.new w 2 #[.int .i64 d]
    have HD := Lib.hid hd; have HM := Lib.hid hM; have HN := Lib.hid hn
    have hei := enters_of Tryd.func53 (by kernel_rfl) rfl
    generalize distM M k = r at *
    have HBX := Lib.hid hbx; have HFN := Lib.hid hfn; have HEI := Lib.hid hei
    clear ha h h' hM hGM hG hpr hd hn hbx hfn hei
    go_enter Tryd.func19, Tryd.ntmps19
    go_wp2_with fail
    refine h1.mono ?_
    rintro e w' ⟨rfl, rfl⟩
    go_wp2_with fail
    refine hf.mono ?_
    rintro e w1 ⟨q, rfl, hq, hrow, hb1⟩
    have hrow2 := hrow.alloc (.cells #[.slice (some ⟨q, 0, none⟩) n n] 63)
    have hb7 := Blk.new w1 63 #[.slice (some ⟨q, 0, none⟩) n n]
    have hd1 := (HD.out.below hb1 (by rw [World.size_alloc]; omega)).alloc (.cells #[.slice (some ⟨q, 0, none⟩) n n] 63)
    have hM1 := HM.out.below (hb1.alloc hb1.size (.cells #[.slice (some ⟨q, 0, none⟩) n n] 63))
    have hbA := (HBX.out.trans (hb1.mono (by rw [World.size_alloc]; omega))).alloc (by have := hb1.size; rw [World.size_alloc] at this; omega) (.cells #[.slice (some ⟨q, 0, none⟩) n n] 63)
    have HR2 := Lib.hid hrow2; have HB7 := Lib.hid hb7; have HD1 := Lib.hid hd1; have HM1 := Lib.hid hM1; have HBA := Lib.hid hbA
    clear hrow2 hb7 hd1 hM1 hbA hrow hb1
    have hsz : w1.heap.size < (w1.alloc (.cells #[.slice (some ⟨q, 0, none⟩) n n] 63)).heap.size := by rw [World.size_alloc]; omega
    obtain ⟨w2, hw2⟩ : ∃ w2, w1.alloc (.cells #[.slice (some ⟨q, 0, none⟩) n n] 63) = w2 := ⟨_, rfl⟩
    rw [hw2] at HR2 HB7 HD1 HM1 HBA hsz
    have hwh := where_any (some ⟨g, 0, none⟩) 53 #[.pointer (some ⟨w1.heap.size, 0, none⟩), .pointer (some ⟨w.heap.size, 0, none⟩)] w2
    go_wp2_with fail
    refine hwh.mono ?_
    rintro e w3 ⟨rfl, hw3⟩
    have hbm := (Blk.new w2 27 #[.pointer (some ⟨g, 0, none⟩)]).alloc (.cells #[.func (.func 53) #[] #[.pointer (some ⟨w1.heap.size, 0, none⟩), .pointer (some ⟨w.heap.size, 0, none⟩)]] 83)
    have hbi := Blk.new (w2.alloc (.cells #[.pointer (some ⟨g, 0, none⟩)] 27)) 83 #[.func (.func 53) #[] #[.pointer (some ⟨w1.heap.size, 0, none⟩), .pointer (some ⟨w.heap.size, 0, none⟩)]]
    have hb3 : Below w2.heap.size w2 w3 := by rw [hw3]; exact ((Below.refl _ w2).alloc (Nat.le_refl _) _).alloc (by rw [World.size_alloc]; omega) _
    rw [World.size_alloc] at hbi
    rw [← hw3] at hbm hbi
    have hcol := collectW g M _ _ _ _ n pr w3 (HM1.out.below hb3) HN.out hfew hbm hbi HEI.out (HFN.out _ _ _ _ (HB7.out.below hb3 hsz) (HR2.out.below hb3 HR2.out.lt) (HD1.out.below hb3 HD1.out.lt))
    have HBB := Lib.hid (HBA.out.trans (hb3.mono HBA.out.size))
    clear hbm hbi hb3 hw3
    go_wp2_with fail
    refine hcol.mono ?_
    rintro e w4 ⟨v, rfl, ho, hb4⟩
    go_wp2
    go_ret
    exact ⟨v, rfl, own_mono ho HBB.out.size, HBB.out.trans (hb4.mono HBB.out.size)⟩
  · have h1 := hasP_no h' ha
    rw [withinO_out ha]
    clear ha h h' hG
    go_enter Tryd.func19, Tryd.ntmps19
    go_wp2_with fail
    refine h1.mono ?_
    rintro e w' ⟨rfl, rfl⟩
    go_wp2
    go_ret
    exact ⟨_, rfl, World.ownsRow_nil _ _ _ _, hbx⟩
end Go.Proofs.YtdelkgfodeilkaaDoor
