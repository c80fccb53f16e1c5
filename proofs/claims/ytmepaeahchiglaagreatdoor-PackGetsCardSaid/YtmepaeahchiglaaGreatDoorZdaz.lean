/-
 layer 22: the families and the leaves of a tree. Conditions: a valid tree that can be read. (Printed by pjj.py.)
-/
import Derived.Test.YtmepaeahchiglaaGreatDoorZday
set_option maxRecDepth 20000
set_option maxHeartbeats 4000000
set_option linter.unusedSimpArgs false
namespace Go.Proofs.YtmepaeahchiglaaGreatDoor
open Go.RowKit Go.Lib
abbrev rT (l : List Nat) : List Value := l.map fun (n : Nat) => Value.int .i64 (n : Int)
theorem qX (l : List Nat) (k : Nat) : rT (l ++ [k]) = rT l ++ [.int .i64 (k : Int)] := List.map_append
def ET (f : Nat → List Nat) (k : Nat) (l : List Nat) : Nat → List Nat := fun i => if i = k then l else f i
structure kY (w : World) (base qE N : Nat) (us : Nat → Value) (near : Nat → List Nat) : Prop where
 row : Blk w qE 144 (CQ N us)
 rows : ∀ k, k < N → w.ownsRow base 3 1 (us k) (near k).length (rT (near k))
 apart : ∀ j k, j < N → k < N → j ≠ k → (us j).ownBlock = none ∨ (us j).ownBlock ≠ (us k).ownBlock
 hq : base ≤ qE
section
variable {w w' : World} {base qE N : Nat} {us : Nat → Value} {near : Nat → List Nat}
theorem kY.later (h : kY w base qE N us near) (hb : Below w.heap.size w w') : kY w' base qE N us near := ⟨h.row.below hb h.row.lt, fun k hk => own_below (h.rows k hk) hb, h.apart, h.hq⟩
theorem kY.turn (h : kY w base qE N us near) {k : Nat} (hk : k < N) {v' : Value} {l' : List Nat} (hg : w.grownBy w' (us k).ownBlock) (ho : w'.ownsRow base 3 1 v' l'.length (rT l')) (hv : v'.ownBlock = (us k).ownBlock ∨ v'.ownBlock = some w.heap.size) :
 kY (w'.setCell ⟨qE, k, none⟩ v') base qE N (lU us k v') (ET near k l') := by
 have hne : (us k).ownBlock ≠ some qE := own_blk_ne (h.rows k hk) h.row (by decide)
 have hrow : Blk w' qE 144 (CQ N us) := h.row.grown hg (fun e => hne e.symm)
 refine ⟨by rw [← yS us]; exact hrow.set_ k v', fun j hj => ?_, fun i j hi hj hij => ?_, h.hq⟩
 ·unfold lU ET
  by_cases e : j = k
  ·rw [if_pos e, if_pos e]
   exact ownsRow_setCell_other ho (own_blk_ne ho hrow (by decide)) _
  ·rw [if_neg e, if_neg e]
   have := (h.rows j hj).kept hg (h.apart j k hj hk e)
   exact ownsRow_setCell_other this (own_blk_ne this hrow (by decide)) _
 ·have far : ∀ j, j < N → j ≠ k → (us j).ownBlock = none ∨ (us j).ownBlock ≠ v'.ownBlock := by
   intro j hj e
   rcases hv with hv | hv
   ·rw [hv]; exact h.apart j k hj hk e
   ·cases hb : (us j).ownBlock with
    | none => exact .inl rfl
    | some b =>
      refine .inr ?_
      rw [hv]
      intro e2
      injection e2 with e2
      have := ((h.rows j hj).lt b hb).2
      omega
  unfold lU
  by_cases ei : i = k
  ·rw [if_pos ei, if_neg (fun e => hij (ei.trans e.symm))]
   rcases far j hj (fun e => hij (ei.trans e.symm)) with h1 | h1
   ·cases hv' : v'.ownBlock with
    | none => exact .inl rfl
    | some b => exact .inr (by rw [h1]; simp)
   ·exact .inr (Ne.symm h1)
  ·rw [if_neg ei]
   by_cases ej : j = k
   ·rw [if_pos ej]; exact far i hi ei
   ·rw [if_neg ej]; exact h.apart i j hi hj hij
theorem kY.cell (h : kY w base qE N us near) {k : Nat} (hk : k < N) : w.cell? ⟨qE, k, none⟩ = some (us k) := (Blk.cell h.row k).trans (lq us hk)
end
theorem kY.made (w : World) (N : Nat) : kY (w.alloc (.cells (madeCells #[.slice none 0 0] N) 144)) w.heap.size w.heap.size N (fun _ => .slice none 0 0) (fun _ => []) :=
 ⟨by rw [pR]; exact Blk.new w _ _, fun _ _ => World.ownsRow_nil _ _ _ _, fun _ _ _ _ _ => .inl rfl, Nat.le_refl _⟩
def zz (t : List Nd) (k i : Nat) : List Nat := (List.range k).filter fun u => decide (0 < u ∧ (t[u]?.getD (-1, ⟨#[]⟩)).1 = (i : Int))
theorem Kq {t : List Nd} {k : Nat} (i : Nat) : zz t (k + 1) i = zz t k i ++ (if 0 < k ∧ (t[k]?.getD (-1, ⟨#[]⟩)).1 = (i : Int) then [k] else []) := by
 unfold zz
 rw [List.range_succ, List.filter_append]
 congr 1
 by_cases h : 0 < k ∧ (t[k]?.getD (-1, ⟨#[]⟩)).1 = (i : Int)
 ·rw [if_pos h]; simp [h.1, h.2]
 ·rw [if_neg h]; simp; exact fun h1 h2 => h ⟨h1, h2⟩
theorem MM (t : List Nd) (k i : Nat) : (zz t k i).length ≤ k := by
 have := List.length_filter_le (fun u => decide (0 < u ∧ (t[u]?.getD (-1, ⟨#[]⟩)).1 = (i : Int))) (List.range k)
 rwa [List.length_range] at this
theorem zx (A : Option Addr) (N c B : Nat) (t : List Nd) (w : World) (hr : Reads w B 2 A N (t.flatMap fun x => [Value.int .i64 x.1, Value.string x.2])) (hB : B ≤ w.heap.size) (hN : t.length = N) (h63 : N ≤ 63) (eQ : ∀ (i : Nat) (hi : i < t.length), jP i t[i] = true) :
 Calls Tryz.prog 215 #[.slice A N c] w fun e w' => e = .returned (.slice (some ⟨w.heap.size, 0, none⟩) N N) ∧ (∃ us, kY w' w.heap.size w.heap.size N us (zz t N)) ∧ Below w.heap.size w w' := by
 obtain ⟨i0, hi, hz0, hz1, hz2⟩ := info_parts (show (Tryz.prog.info? 3).map (fun i => (i.zero, i.size, i.bytes)) = some (some (.int .i64 0), 1, 8) by kernel_rfl)
 have hmk := fun W => run_make_row' (P := Tryz.prog) 27 144 (.slice none 0 0) 24 Tryz.underlying27 (by kernel_rfl) rfl .i64 .i64 N (by omega) (by omega) W
 have hm0 := kY.made w N
 have hb0 := (Below.refl w.heap.size w).alloc (Nat.le_refl _) (.cells (madeCells #[.slice none 0 0] N) 144)
 have HR := qh hr; have HN := qh hN; have CO := qh eQ; have UW := qh hm0; have HB0 := qh hb0
 clear hr hN eQ hm0 hb0
 go_enter Tryz.func215, Tryz.ntmps215
 go_wp2
 go_loopw [11] (fun i wr => ∃ (k : Nat) (us : Nat → Value), k ≤ N ∧ i = .int .i64 k ∧ kY wr w.heap.size w.heap.size N us (zz t k) ∧ Below w.heap.size w wr) (fun i _ => N - (RowKit.intOf i).toNat)
 case atStart => exact ⟨0, _, by omega, rfl, UW.out, HB0.out⟩
 case round =>
  obtain ⟨k, us, hk, rfl, hnr, hbw⟩ := hrel
  have UL := qh hnr; have aQ := qh hbw
  clear hnr hbw UW HB0 hmk
  by_cases hlt : k < N
  ·have cB : (k : Int) < (N : Int) := by omega
   have hk0 : (0 : Int) ≤ (k : Int) := by omega
   have hkt : k < t.length := by rw [HN.out]; exact hlt
   obtain ⟨ad, e, had, aC⟩ := (HR.out.below (aQ.out.mono hB)).row (fun _ => rfl) (by decide) hkt
   subst e
   have e0 := aC 0 _ rfl
   have e1 := aC 1 _ rfl
   rw [Nat.add_zero] at e0
   rw [aH ad (k * 2) 0] at e1
   have wX := kR (CO.out k hkt)
   have bQ := fun i => Kq (t := t) (k := k) i
   rw [List.getElem?_eq_getElem hkt] at bQ
   generalize t[k] = x at *
   obtain ⟨par, nm⟩ := x
   simp only [Option.getD_some] at *
   have lH := (Below.refl wr.heap.size wr).alloc (Nat.le_refl _) (.cells #[.int .i64 par, .string nm] 78)
   have hn1 := UL.out.later lH
   have hx1 := Blk.new wr 78 #[.int .i64 par, .string nm]
   have hbw1 := aQ.out.trans (lH.mono aQ.out.size)
   have CP := qh hn1; have HX := qh hx1; have HB1 := qh hbw1; have bz := qh bQ; have MZ := qh wX
   clear aC lH hn1 hx1 hbw1 bQ wX
   by_cases hkz : 0 < k
   case neg =>
    have WS : ¬ (0 : Int) < (k : Int) := by omega
    have heq : zz t k = zz t (k + 1) := by
     funext i
     rw [bz.out i, if_neg (fun h => hkz h.1), List.append_nil]
    have hn1 := CP.out
    rw [heq] at hn1
    have UQ := qh hn1
    clear heq hn1 hkz
    go_wp2
    go_roundw
    case rel => exact ⟨k + 1, us, by omega, by go_num, UQ.out, HB1.out⟩
    case measure => simp [RowKit.intOf]; omega
   have WS : (0 : Int) < (k : Int) := by omega
   obtain ⟨p, hp, hpk⟩ : ∃ p : Nat, par = (p : Int) ∧ p < k := by
    rcases MZ.out with ⟨h1, -⟩ | ⟨-, h1, h2⟩
    ·omega
    ·exact ⟨par.toNat, by omega, by omega⟩
   subst hp
   have OE : p < N := by omega
   have Q7 : (p : Int) < (N : Int) := by omega
   have hrow := CP.out.rows p OE
   obtain ⟨Ap, cp, hup, hcp1, hcp2⟩ := ownsRow_form hrow
   have bW := CP.out.cell OE
   have hcl2 := (CP.out.later ((Below.refl _ _).alloc (Nat.le_refl _) (.cells #[.int .i64 (k : Int)] 3))).cell OE
   have hlen := MM t k p
   obtain ⟨np, WI⟩ : ∃ n, (zz t k p).length = n := ⟨_, rfl⟩
   rw [WI] at hup hrow hlen
   rw [hup] at hrow bW hcl2
   obtain ⟨W, hW⟩ : ∃ W, wr.alloc (.cells #[.int .i64 (p : Int), .string nm] 78) = W := ⟨_, rfl⟩
   rw [hW] at CP HX HB1 hrow bW hcl2
   have Y6 : ∀ V, Below W.heap.size W V → V.cell? ⟨wr.heap.size, 0, none⟩ = some (.int .i64 (p : Int)) := fun V hV => (hV.cell HX.out.lt).trans (HX.out.cell 0)
   have Qd := HX.out.lt
   have hne : wr.heap.size ≠ w.heap.size := by have := UL.out.row.lt; omega
   have VF := qh hup; have Cu := qh hrow; have zQ := qh Y6; have Zr := qh WI; have HW := qh hW; have Ip := qh bW; have YB := qh hcl2
   have hfz := CP.out.row.frozen p
   have Rz : zz t (k + 1) = ET (zz t k) p (zz t k p ++ [k]) := by
    funext i
    rw [bz.out i]
    unfold ET
    by_cases e : i = p
    ·rw [if_pos e, if_pos ⟨hkz, by rw [e]⟩, e]
    ·rw [if_neg e, if_neg (fun h => e (by have := h.2; omega)), List.append_nil]
   have Ve := qh Rz
   clear hup hrow Y6 WI hW bW hcl2 Rz hkz bz MZ
   go_upto_region 6 with (rw [HW.out])
   clear e0 e1
   refine wp_region_held_drew (S := (fun V => V.cell? ⟨wr.heap.size, 0, none⟩ = some (.int .i64 (p : Int)))) (by kernel_rfl) ?_ (fun ah => ?_)
   ·(try dsimp only)
    first | exact zQ.out _ (Below.refl _ _).drew | exact zQ.out _ fZ.out | exact xx.out | exact xw.out
   iterate 7
    refine tkH 0 (v := ?_) rfl (fun _ _ _ h => h) ?_ ?_
    rotate_left
    ·intro w hSw; (try dsimp only at hSw); (try simp only [tkN, gq3, gq1]); go_simp <;> with_reducible rfl
    try simp only [tkN, Act.put, gq3, gq1]
   refine tkH 8 (v := ?_) rfl (fun _ _ _ h => h) ?_ ?_
   rotate_left
   ·intro w hSw; (try dsimp only at hSw); (try simp only [tkN, gq3, gq1]); go_simp <;> with_reducible rfl
   try simp only [tkN, Act.put, gq3, gq1]
   have RF := ((Below.refl W.heap.size W).alloc (Nat.le_refl _) (.cells #[.int .i64 (k : Int)] 3)).drew
   have fZ := qh RF
   have bW := Ip.out; have hcl2 := YB.out
   clear RF
   refine rdJ 7 9 (fun K hK => ?_) fun K hK => ?_
   ·go_simp
    refine hK.out _ _ ?_ (fun aJ => ?_)
    ·(try dsimp only)
     first | exact zQ.out _ (Below.refl _ _).drew | exact zQ.out _ fZ.out | exact xx.out | exact xw.out
    clear hK K ah; rename _ => ah
    refine rdH 9 fun K hK => ?_
    go_simp
    refine hK.out _ _ ?_ (fun aJ => ?_)
    ·(try dsimp only)
     first | exact zQ.out _ (Below.refl _ _).drew | exact zQ.out _ fZ.out | exact xx.out | exact xw.out
    clear hK K ah; rename _ => ah
    refine rdH 10 fun K hK => ?_
    (refine step_append_any _ rfl (.tmp 25) (.tmp 27) 144 rfl w.heap.size 3 i0 (.int .i64 0) 1 8 Tryz.underlying144 hi hz0 hz1 hz2 rfl (by decide) (.slice Ap np cp) np (rT (zz t k p)) (by simp [Act.eval, Act.put]) (own_below Cu.out fZ.out) (W.heap.size + 1) (some ⟨W.heap.size, 0, none⟩) 1 1 [.int .i64 (k : Int)] (by simp [Act.eval, Act.put]) (reads_new _ _ _) (by simp [Value.oneCell']) (by unfold maxLen; omega) (by omega) (Nat.le_trans HB1.out.size fZ.out.size) ?_)
    intro v7 w7 hown7 hgrow7 hx7
    have hrow7 := own_below Cu.out fZ.out
    have hk7 := (HX.out.below fZ.out HX.out.lt).grown hgrow7 (fun e => own_blk_ne hrow7 (HX.out.below fZ.out HX.out.lt) (by decide) e.symm)
    have hq7 := (CP.out.row.below fZ.out CP.out.row.lt).grown hgrow7 (fun e => own_blk_ne hrow7 (CP.out.row.below fZ.out CP.out.row.lt) (by decide) e.symm)
    have hb7 := (HB1.out.trans (fZ.out.mono HB1.out.size)).grown hgrow7 (Nat.le_trans HB1.out.size fZ.out.size) (fun j hj => (Cu.out.lt j hj).1)
    obtain ⟨A7, c7, rfl, -, -⟩ := ownsRow_form hown7
    have hnr7 := (CP.out.later fZ.out).turn OE (by rw [VF.out]; exact hgrow7) (l' := zz t k p ++ [k]) (by rw [List.length_append, Zr.out, qX]; exact hown7) (by rw [VF.out]; exact hx7)
    have hfz7 := hq7.frozen p
    have hcq7 := (hq7.cell p).trans (lq us OE)
    have xx := qh (hk7.cell 0)
    have xw := qh ((hk7.far (p := ⟨w.heap.size, p, none⟩) hne (.slice A7 (np + 1) c7)).cell 0)
    have KS := qh hnr7
    have Ir := qh (hb7.setCell (p := ⟨w.heap.size, p, none⟩) (Nat.le_refl _) (.slice A7 (np + 1) c7))
    clear hrow7 hk7 hq7 hb7 hnr7 hown7 hgrow7 hx7 bW hcl2 hfz
    refine hK.out _ _ ?_ (fun aJ => ?_)
    ·(try dsimp only)
     first | exact zQ.out _ (Below.refl _ _).drew | exact zQ.out _ fZ.out | exact xx.out | exact xw.out
    clear hK K ah; rename _ => ah
    refine tkH 11 (v := ?_) rfl (fun _ _ _ h => h) ?_ ?_
    rotate_left
    ·intro w hSw; (try dsimp only at hSw); (try simp only [tkN, gq3, gq1]); go_simp <;> with_reducible rfl
    try simp only [tkN, Act.put, gq3, gq1]
    refine rdH 12 fun K hK => ?_
    go_simp
    refine hK.out _ _ ?_ (fun aJ => ?_)
    ·(try dsimp only)
     first | exact zQ.out _ (Below.refl _ _).drew | exact zQ.out _ fZ.out | exact xx.out | exact xw.out
    clear hK K ah; rename _ => ah
    refine wpAnyH_done (by kernel_rfl) ?_ _
    rw [← Ve.out] at KS
    go_wp2_with fail
    go_roundw
    case rel => exact ⟨k + 1, _, by omega, by go_num, KS.out, Ir.out⟩
    case measure => simp [RowKit.intOf]; omega
   ·go_simp
    refine hK.out _ _ ?_ (fun aJ => ?_)
    ·(try dsimp only)
     first | exact zQ.out _ (Below.refl _ _).drew | exact zQ.out _ fZ.out | exact xx.out | exact xw.out
    clear hK K ah; rename _ => ah
    refine rdH 7 fun K hK => ?_
    go_simp
    refine hK.out _ _ ?_ (fun aJ => ?_)
    ·(try dsimp only)
     first | exact zQ.out _ (Below.refl _ _).drew | exact zQ.out _ fZ.out | exact xx.out | exact xw.out
    clear hK K ah; rename _ => ah
    refine rdH 10 fun K hK => ?_
    (refine step_append_any _ rfl (.tmp 25) (.tmp 27) 144 rfl w.heap.size 3 i0 (.int .i64 0) 1 8 Tryz.underlying144 hi hz0 hz1 hz2 rfl (by decide) (.slice Ap np cp) np (rT (zz t k p)) (by simp [Act.eval, Act.put]) (own_below Cu.out fZ.out) (W.heap.size + 1) (some ⟨W.heap.size, 0, none⟩) 1 1 [.int .i64 (k : Int)] (by simp [Act.eval, Act.put]) (reads_new _ _ _) (by simp [Value.oneCell']) (by unfold maxLen; omega) (by omega) (Nat.le_trans HB1.out.size fZ.out.size) ?_)
    intro v7 w7 hown7 hgrow7 hx7
    have hrow7 := own_below Cu.out fZ.out
    have hk7 := (HX.out.below fZ.out HX.out.lt).grown hgrow7 (fun e => own_blk_ne hrow7 (HX.out.below fZ.out HX.out.lt) (by decide) e.symm)
    have hq7 := (CP.out.row.below fZ.out CP.out.row.lt).grown hgrow7 (fun e => own_blk_ne hrow7 (CP.out.row.below fZ.out CP.out.row.lt) (by decide) e.symm)
    have hb7 := (HB1.out.trans (fZ.out.mono HB1.out.size)).grown hgrow7 (Nat.le_trans HB1.out.size fZ.out.size) (fun j hj => (Cu.out.lt j hj).1)
    obtain ⟨A7, c7, rfl, -, -⟩ := ownsRow_form hown7
    have hnr7 := (CP.out.later fZ.out).turn OE (by rw [VF.out]; exact hgrow7) (l' := zz t k p ++ [k]) (by rw [List.length_append, Zr.out, qX]; exact hown7) (by rw [VF.out]; exact hx7)
    have hfz7 := hq7.frozen p
    have hcq7 := (hq7.cell p).trans (lq us OE)
    have xx := qh (hk7.cell 0)
    have xw := qh ((hk7.far (p := ⟨w.heap.size, p, none⟩) hne (.slice A7 (np + 1) c7)).cell 0)
    have KS := qh hnr7
    have Ir := qh (hb7.setCell (p := ⟨w.heap.size, p, none⟩) (Nat.le_refl _) (.slice A7 (np + 1) c7))
    clear hrow7 hk7 hq7 hb7 hnr7 hown7 hgrow7 hx7 bW hcl2 hfz
    refine hK.out _ _ ?_ (fun aJ => ?_)
    ·(try dsimp only)
     first | exact zQ.out _ (Below.refl _ _).drew | exact zQ.out _ fZ.out | exact xx.out | exact xw.out
    clear hK K ah; rename _ => ah
    refine tkH 11 (v := ?_) rfl (fun _ _ _ h => h) ?_ ?_
    rotate_left
    ·intro w hSw; (try dsimp only at hSw); (try simp only [tkN, gq3, gq1]); go_simp <;> with_reducible rfl
    try simp only [tkN, Act.put, gq3, gq1]
    refine rdH 12 fun K hK => ?_
    go_simp
    refine hK.out _ _ ?_ (fun aJ => ?_)
    ·(try dsimp only)
     first | exact zQ.out _ (Below.refl _ _).drew | exact zQ.out _ fZ.out | exact xx.out | exact xw.out
    clear hK K ah; rename _ => ah
    refine wpAnyH_done (by kernel_rfl) ?_ _
    rw [← Ve.out] at KS
    go_wp2_with fail
    go_roundw
    case rel => exact ⟨k + 1, _, by omega, by go_num, KS.out, Ir.out⟩
    case measure => simp [RowKit.intOf]; omega
  ·obtain rfl : k = N := by omega
   go_wp2
   go_ret
   exact ⟨rfl, ⟨us, UL.out⟩, aQ.out⟩
def iE (t : List Nd) (v : Nat) : Bool := t.all fun x => decide (x.1 ≠ (v : Int))
theorem Jv (t : List Nd) : jG t = (List.range t.length).filter (iE t) := rfl
theorem Jw {t : List Nd} (eQ : ∀ (i : Nat) (hi : i < t.length), jP i t[i] = true) (v : Nat) : iE t v = decide (zz t t.length v = []) := by
 rw [Bool.eq_iff_iff, decide_eq_true_iff]
 unfold iE zz
 rw [List.all_eq_true, List.filter_eq_nil_iff]
 constructor
 ·intro h u hu
  rw [List.mem_range] at hu
  have := h t[u] (List.getElem_mem hu)
  rw [List.getElem?_eq_getElem hu]
  simp only [decide_eq_true_eq, Option.getD_some] at this ⊢
  exact fun h2 => this h2.2
 ·intro h x hx
  obtain ⟨u, hu, rfl⟩ := List.mem_iff_getElem.1 hx
  have := h u (List.mem_range.2 hu)
  rw [List.getElem?_eq_getElem hu] at this
  simp only [decide_eq_true_eq, Option.getD_some] at this ⊢
  intro e
  rcases kR (eQ u hu) with ⟨h0, h1⟩ | ⟨h0, -⟩
  ·omega
  ·exact this ⟨h0, e⟩
theorem DN (A : Option Addr) (N c B : Nat) (t : List Nd) (w : World) (hr : Reads w B 2 A N (t.flatMap fun x => [Value.int .i64 x.1, Value.string x.2])) (hB : B ≤ w.heap.size) (hN : t.length = N) (h63 : N ≤ 63) (eQ : ∀ (i : Nat) (hi : i < t.length), jP i t[i] = true) :
 Calls Tryz.prog 179 #[.slice A N c] w fun e w' => ∃ v, e = .returned v ∧ w'.ownsRow w.heap.size 3 1 v (jG t).length (rT (jG t)) ∧ Below w.heap.size w w' := by
 obtain ⟨i0, hi, hz0, hz1, hz2⟩ := info_parts (show (Tryz.prog.info? 3).map (fun i => (i.zero, i.size, i.bytes)) = some (some (.int .i64 0), 1, 8) by kernel_rfl)
 have hf := zx A N c B t w hr hB hN h63 eQ
 have hlf := Jw eQ
 have hle := Jv t
 rw [hN] at hlf hle
 have HF := qh hf; have HLF := qh hlf; have U0 := qh hle
 clear hf hlf hle hr hN eQ
 go_enter Tryz.func179, Tryz.ntmps179
 go_wp2_with fail
 refine HF.out.mono ?_
 rintro e w1 ⟨rfl, ⟨us, hnr⟩, hb1⟩
 have UL := qh hnr; have HB1 := qh hb1
 have hs1 := hb1.size
 clear hnr hb1 HF
 go_wp2
 go_loopw [3, 9] (fun v i wr => ∃ k : Nat, k ≤ N ∧ i = .int .i64 k ∧ wr.ownsRow w1.heap.size 3 1 v ((List.range k).filter (iE t)).length (rT ((List.range k).filter (iE t))) ∧ Below w1.heap.size w1 wr) (fun _ i _ => N - (RowKit.intOf i).toNat)
 case atStart => exact ⟨0, by omega, rfl, World.ownsRow_nil _ _ _ _, Below.refl _ _⟩
 case round =>
  obtain ⟨k, hk, rfl, hown, hbw⟩ := hrel
  obtain ⟨A3, c3, rfl, hc31, hc32⟩ := ownsRow_form hown
  have bD := qh hown; have aQ := qh hbw
  clear hown hbw
  by_cases hlt : k < N
  ·have cB : (k : Int) < (N : Int) := by omega
   have hk0 : (0 : Int) ≤ (k : Int) := by omega
   have hn := UL.out.later aQ.out
   have bW := hn.cell hlt
   obtain ⟨Ak, ck, Wv, -, -⟩ := ownsRow_form (hn.rows k hlt)
   rw [Wv] at bW
   have aF : ((List.range (k + 1)).filter (iE t)) = ((List.range k).filter (iE t)) ++ (if iE t k = true then [k] else []) := by
    rw [List.range_succ, List.filter_append]
    congr 1
    by_cases h : iE t k = true
    ·rw [if_pos h]; simp [h]
    ·rw [if_neg h]; simp [h]
   have hlk := HLF.out k
   have Ry : ((List.range k).filter (iE t)).length ≤ k := by
    have := List.length_filter_le (iE t) (List.range k)
    rwa [List.length_range] at this
   obtain ⟨nc, hnc⟩ : ∃ n, (zz t N k).length = n := ⟨_, rfl⟩
   rw [hnc] at bW Wv
   have hlk2 : iE t k = decide (nc = 0) := by
    rw [hlk, ← hnc]
    exact decide_eq_decide.2 List.length_eq_zero_iff.symm
   obtain ⟨l, hl⟩ : ∃ l, (List.range k).filter (iE t) = l := ⟨_, rfl⟩
   rw [hl] at bD aF Ry hc31 ⊢
   have bL := qh aF; have Qq := qh hlk2; have Ip := qh bW
   obtain ⟨m, hm⟩ : ∃ m, l.length = m := ⟨_, rfl⟩
   rw [hm] at bD Ry hc31 ⊢
   have HM := qh hm
   clear hn Wv aF hlk hnc hlk2 hl hm
   by_cases hz : nc = 0
   ·have vE : ((nc : Int) == 0) = true := by rw [hz]; rfl
    have aF := bL.out
    rw [Qq.out, decide_eq_true hz, if_pos rfl] at aF
    have hal := (Below.refl wr.heap.size wr).alloc (Nat.le_refl _) (.cells #[.int .i64 (k : Int)] 3)
    have hrn := reads_new wr 3 [.int .i64 (k : Int)]
    have dz := qh aF; have dR := qh hrn; have jf := qh (own_below bD.out hal); have HB2 := qh (aQ.out.trans (hal.mono aQ.out.size))
    have hs2 : w1.heap.size ≤ (wr.alloc (.cells #[.int .i64 (k : Int)] 3)).heap.size := Nat.le_trans aQ.out.size hal.size
    have HS2 := qh hs2
    clear aF hz hal hrn hs2 bL
    go_wp2_with (at_builtin; refine wpList_append_any _ rfl _ _ 144 rfl w1.heap.size 3 i0 (.int .i64 0) 1 8 Tryz.underlying144 hi hz0 hz1 hz2 rfl (by decide) _ _ _ rfl jf.out _ _ _ _ [.int .i64 (k : Int)] rfl dR.out (by simp [Value.oneCell']) (by unfold maxLen; omega) (by omega) HS2.out ?_; intro v4 w4 hown4 hgrow4 hgx; clear hgx)
    have hb4 := HB2.out.grown hgrow4 HS2.out (fun j hj => (jf.out.lt j hj).1)
    go_roundw
    case rel => exact ⟨k + 1, by omega, by go_num, by rw [dz.out, List.length_append, HM.out, qX]; exact hown4, hb4⟩
    case measure => simp [RowKit.intOf]; omega
   ·have vE : ((nc : Int) == 0) = false := by rw [beq_eq_false_iff_ne]; omega
    have aF := bL.out
    rw [Qq.out, decide_eq_false hz, if_neg (by decide), List.append_nil] at aF
    have dz := qh aF
    clear aF hz bL
    go_wp2
    go_roundw
    case rel => exact ⟨k + 1, by omega, by go_num, by rw [dz.out, HM.out]; exact bD.out, aQ.out⟩
    case measure => simp [RowKit.intOf]; omega
  ·obtain rfl : k = N := by omega
   have hown := bD.out
   rw [← U0.out] at hown ⊢
   have HO := qh hown
   clear hown
   go_wp2
   go_ret
   exact ⟨_, rfl, dh HO.out hs1, HB1.out.trans (aQ.out.mono hs1)⟩
theorem ED (v : Value) (B : Nat) (t : List Nd) (w : World) (h : aP Ho 2 w B t v) (hB : B ≤ w.heap.size) (hs : ∀ x ∈ t, x.2.size ≤ maxLen) (ht : cz t = 0) :
 Calls Tryz.prog 130 #[v] w fun e w' => ∃ A c, e = .returned (.tuple #[.slice A (jG t).length c, .int .i64 0]) ∧ Below w.heap.size w w' := by
 obtain ⟨A, c, rfl, hc, hr⟩ := h.flat
 have htc := kr _ B t w h hB hs
 rw [ht] at htc
 obtain ⟨h63, -, eQ⟩ := iM ht
 have hl := fun (W : World) (hW : Below w.heap.size w W) => DN A t.length c B t W (hr.below (hW.mono hB)) (Nat.le_trans hB hW.size) rfl h63 eQ
 have MS := qh htc; have HL := qh hl
 clear htc hl hr hs ht eQ h
 go_enter Tryz.func130, Tryz.ntmps130
 go_wp2_with fail
 refine MS.out.mono ?_
 rintro e w1 ⟨rfl, hb1⟩
 have HB1 := qh hb1
 clear hb1
 go_wp2_with fail
 refine (HL.out w1 HB1.out).mono ?_
 rintro e w2 ⟨v2, rfl, ho, hb2⟩
 obtain ⟨A2, c2, rfl, -, -⟩ := ownsRow_form ho
 have HB2 := qh (HB1.out.trans (hb2.mono HB1.out.size))
 clear hb2 ho
 go_wp2
 go_ret2
 exact ⟨_, _, rfl, HB2.out⟩
theorem qg {w : World} {B : Nat} : ∀ x cs, bn w B x cs → cs.length = 2 := by
 rintro x cs ⟨v, rfl, -⟩; rfl
theorem qZ {w : World} {B : Nat} : ∀ x cs, tN w B x cs → cs.length = 2 := by
 rintro x cs ⟨v, rfl, -⟩; rfl
def lN (f : Fm) : Bool := !f.has && decide (0 < f.w.length)
theorem Fp (f : Fm) : (f.has || decide (f.w.length = 0)) = !lN f := by
 unfold lN
 cases f.has
 ·rw [Bool.false_or, Bool.not_false, Bool.true_and, Bool.eq_iff_iff]; simp
 ·simp
theorem GV (l : List Fm) : bS l = !l.any lN := by
 unfold bS
 induction l with
 | nil => rfl
 | cons x l ih => rw [List.all_cons, List.any_cons, ih, Fp, Bool.not_or]
theorem xk (f : Fm) (A : Option Addr) (c : Nat) (w : World) : Calls Tryz.prog 180 #[.agg #[.bool f.has, .slice A f.w.length c]] w fun e w' => e = .returned (.bool (lN f)) ∧ Below w.heap.size w w' := by
 obtain ⟨has, ws⟩ := f
 unfold lN
 simp only []
 obtain ⟨n, hn⟩ : ∃ n, ws.length = n := ⟨_, rfl⟩
 rw [hn]
 clear hn
 have HB := qh ((Below.refl w.heap.size w).alloc (Nat.le_refl _) (.cells #[.bool has, .slice A n c] 82))
 cases has with
 | true =>
   go_enter Tryz.func180, Tryz.ntmps180
   go_wp2
   go_ret
   exact ⟨rfl, HB.out⟩
 | false =>
   by_cases h : 0 < n
   ·have hI : (0 : Int) < (n : Int) := by omega
    rw [decide_eq_true h]
    have H := qh h
    clear h
    go_enter Tryz.func180, Tryz.ntmps180
    go_wp2
    go_ret
    exact ⟨by show Ending.returned (Value.bool (decide (0 < n))) = _; rw [decide_eq_true H.out]; rfl, HB.out⟩
   ·have hI : ¬ (0 : Int) < (n : Int) := by omega
    rw [decide_eq_false h]
    have H := qh h
    clear h
    go_enter Tryz.func180, Tryz.ntmps180
    go_wp2
    go_ret
    exact ⟨by show Ending.returned (Value.bool (decide (0 < n))) = _; rw [decide_eq_false H.out], HB.out⟩
theorem BI (A : Option Addr) (n c B : Nat) (l : List Fm) (w : World) (h : aP bn 2 w B l (.slice A n c)) (hB : B ≤ w.heap.size) :
 Calls Tryz.prog 83 #[.slice A n c, .func (.func 180) #[] #[]] w fun e w' => (∃ i : Int, e = .returned (.int .i64 i) ∧ decide (0 ≤ i) = l.any lN) ∧ Below w.heap.size w w' := by
 obtain ⟨hn, hn1, hn2⟩ := h.len
 unfold maxLen at hn2
 obtain ⟨res, hres⟩ : ∃ res, l.any lN = res := ⟨_, rfl⟩
 rw [hres]
 have bT := qh hres; have HS := qh h; have HN := qh hn
 clear hres h hn
 go_enter Tryz.func83, Tryz.ntmps83
 go_wp2
 go_loopw [8] (fun i wr => ∃ k : Nat, k ≤ n ∧ i = .int .i64 k ∧ (l.take k).any lN = false ∧ Below w.heap.size w wr) (fun i _ => n - (RowKit.intOf i).toNat)
 case atStart => exact ⟨0, by omega, rfl, by simp, Below.refl _ _⟩
 case round =>
  obtain ⟨k, hk, rfl, aS, hb⟩ := hrel
  have cu := qh aS; have HB := qh hb
  clear aS hb
  by_cases hlt : k < n
  ·have bB : k < l.length := by have := HN.out; omega
   have cB : (k : Int) < (n : Int) := by omega
   have hk0 : (0 : Int) ≤ (k : Int) := by omega
   have hkeep : ∀ p : Addr, p.block < B → wr.cell? p = w.cell? p := fun p hp => HB.out.cell (Nat.lt_of_lt_of_le hp hB)
   obtain ⟨ad, cs, rfl, had, hP, aC⟩ := aW qg (aP.plain hkeep HS.out (fun _ _ h => bn.keep hkeep h)) bB
   obtain ⟨v, rfl, hv⟩ := hP
   obtain ⟨Ax, nx, cx, rfl, dU⟩ := hv.form
   have e0 := aC 0 _ rfl
   have e1 := aC 1 _ rfl
   rw [Nat.add_zero] at e0
   rw [aH ad (k * 2) 0] at e1
   have aF : (l.take (k + 1)).any lN = lN l[k] := by rw [List.take_succ_eq_append_getElem bB, List.any_append, cu.out]; simp
   have hmem := List.getElem_mem bB
   have hc := xk l[k] Ax cx wr
   rw [← dU] at hc
   cases hq : lN l[k] with
   | true =>
     obtain rfl : res = true := by rw [← bT.out]; exact List.any_eq_true.2 ⟨_, hmem, hq⟩
     rw [hq] at hc
     have HC := qh hc
     clear hq hmem aF aC hkeep hv dU hc
     generalize l[k] = x at *
     go_wp2_with fail
     refine HC.out.mono ?_
     rintro e w2 ⟨rfl, hb2⟩
     have HB2 := qh (HB.out.trans (hb2.mono HB.out.size))
     clear hb2
     go_wp2
     go_ret
     exact ⟨⟨k, rfl, decide_eq_true (by omega)⟩, HB2.out⟩
   | false =>
     rw [hq] at hc aF
     have HC := qh hc; have bL := qh aF
     clear hq hmem aF aC hkeep hv dU hc
     generalize l[k] = x at *
     go_wp2_with fail
     refine HC.out.mono ?_
     rintro e w2 ⟨rfl, hb2⟩
     have HB2 := qh (HB.out.trans (hb2.mono HB.out.size))
     clear hb2
     go_wp2
     go_roundw
     case rel => exact ⟨k + 1, by omega, by go_num, bL.out, HB2.out⟩
     case measure => simp [RowKit.intOf]; omega
  ·obtain rfl : k = n := by omega
   have aS := cu.out
   rw [List.take_of_length_le (by have := HN.out; omega)] at aS
   obtain rfl : res = false := bT.out.symm.trans aS
   go_wp2
   go_ret
   exact ⟨⟨-1, rfl, rfl⟩, HB.out⟩
theorem yF (v : Value) (B : Nat) (l : List Fm) (w : World) (h : aP bn 2 w B l v) (hB : B ≤ w.heap.size) : Calls Tryz.prog 131 #[v] w fun e w' => e = .returned (.bool (bS l)) ∧ Below w.heap.size w w' := by
 obtain ⟨A, n, c, rfl, -⟩ := h.form
 have hi := BI A n c B l w h hB
 have hcont : Calls Tryz.prog 33 #[.slice A n c, .func (.func 180) #[] #[]] w fun e w' => e = .returned (.bool (l.any lN)) ∧ Below w.heap.size w w' := by
  obtain ⟨res, hres⟩ : ∃ res, l.any lN = res := ⟨_, rfl⟩
  rw [hres] at hi ⊢
  have HI := qh hi
  clear hi hres h
  go_enter Tryz.func33, Tryz.ntmps33
  go_wp2_with fail
  refine HI.out.mono ?_
  rintro e w1 ⟨⟨i, rfl, ZU⟩, hb⟩
  have HB := qh hb
  clear hb HI
  go_wp2
  go_ret
  exact ⟨by rw [← ZU]; rfl, HB.out⟩
 rw [GV]
 generalize l.any lN = b at *
 have HC := qh hcont
 clear hcont hi h
 go_enter Tryz.func131, Tryz.ntmps131
 go_wp2_with fail
 refine HC.out.mono ?_
 rintro e w1 ⟨rfl, hb⟩
 have HB := qh hb
 clear hb
 go_wp2
 go_ret
 exact ⟨rfl, HB.out⟩
theorem zY (f : Fm) (l : List Fm) : aV (f :: l) = if bF f.w = 0 then aV l else bF f.w := rfl
theorem rF {l : List Fm} {k : Nat} (hk : k < l.length) (h : aV (l.take k) = 0) : aV (l.take (k + 1)) = bF l[k].w ∧ (bF l[k].w ≠ 0 → aV l = bF l[k].w) := by
 have hap : ∀ (a b : List Fm), aV a = 0 → aV (a ++ b) = aV b := by
  intro a b
  induction a with
  | nil => intro _; rfl
  | cons x a ih =>
    intro h
    rw [List.cons_append]
    rw [zY] at h ⊢
    by_cases e : bF x.w = 0
    ·rw [if_pos e] at h ⊢; exact ih h
    ·rw [if_neg e] at h; exact absurd h e
 constructor
 ·rw [List.take_succ_eq_append_getElem hk, hap _ _ h]
  show (if bF l[k].w = 0 then 0 else bF l[k].w) = _
  split
  ·rename_i e; exact e.symm
  ·rfl
 ·intro hne
  have e : l = l.take k ++ l[k] :: l.drop (k + 1) := by rw [← List.drop_eq_getElem_cons hk, List.take_append_drop]
  conv => lhs; rw [e]
  rw [hap _ _ h]
  show (if bF l[k].w = 0 then _ else bF l[k].w) = _
  rw [if_neg hne]
theorem xD (v : Value) (B : Nat) (l : List Fm) (w : World) (h : aP bn 2 w B l v) (hB : B ≤ w.heap.size) (hok : ∀ f ∈ l, ∀ s ∈ f.w, ok32 s) :
 Calls Tryz.prog 133 #[v] w fun e w' => e = .returned (.int .i64 (aV l)) ∧ Below w.heap.size w w' := by
 obtain ⟨A, n, c, rfl, -⟩ := h.form
 obtain ⟨hn, hn1, hn2⟩ := h.len
 unfold maxLen at hn2
 obtain ⟨r, hr⟩ : ∃ r, aV l = r := ⟨_, rfl⟩
 rw [hr]
 have HR := qh hr; have HS := qh h; have HN := qh hn; have gW := qh hok
 clear hr h hn hok
 go_enter Tryz.func133, Tryz.ntmps133
 go_wp2
 go_loopw [8] (fun i wr => ∃ k : Nat, k ≤ n ∧ i = .int .i64 k ∧ aV (l.take k) = 0 ∧ Below w.heap.size w wr) (fun i _ => n - (RowKit.intOf i).toNat)
 case atStart => exact ⟨0, by omega, rfl, by rw [List.take_zero]; rfl, Below.refl _ _⟩
 case round =>
  obtain ⟨k, hk, rfl, aS, hb⟩ := hrel
  have cu := qh aS; have HB := qh hb
  clear aS hb
  by_cases hlt : k < n
  ·have bB : k < l.length := by have := HN.out; omega
   have cB : (k : Int) < (n : Int) := by omega
   have hk0 : (0 : Int) ≤ (k : Int) := by omega
   have hkeep : ∀ p : Addr, p.block < B → wr.cell? p = w.cell? p := fun p hp => HB.out.cell (Nat.lt_of_lt_of_le hp hB)
   obtain ⟨ad, cs, rfl, had, hP, aC⟩ := aW qg (aP.plain hkeep HS.out (fun _ _ h => bn.keep hkeep h)) bB
   obtain ⟨v, rfl, hv⟩ := hP
   obtain ⟨Ax, cx, rfl, ⟨hx1, hx2⟩, DY⟩ := hv.flat
   have e0 := aC 0 _ rfl
   have e1 := aC 1 _ rfl
   rw [Nat.add_zero] at e0
   rw [aH ad (k * 2) 0] at e1
   obtain ⟨aF, aY⟩ := rF bB cu.out
   have JQ := gW.out _ (List.getElem_mem bB)
   generalize l[k] = x at *
   obtain ⟨has, ws⟩ := x
   simp only [] at *
   have lH := HB.out.alloc HB.out.size (.cells #[.bool has, .slice Ax ws.length cx] 82)
   have hc := iI Ax ws.length cx B ws (wr.alloc (.cells #[.bool has, .slice Ax ws.length cx] 82)) (DY.alloc (Nat.le_trans hB HB.out.size) _) (by rw [World.size_alloc]; have := HB.out.size; omega) (by omega) JQ
   have HC := qh hc; have bL := qh aF; have dX := qh aY; have fZ := qh lH
   clear aF aY aC hkeep hv hc DY JQ lH
   go_wp2_with fail
   refine HC.out.mono ?_
   rintro e w2 ⟨rfl, hb2⟩
   have HB2 := qh (fZ.out.trans (hb2.mono fZ.out.size))
   clear hb2
   by_cases hz : bF ws = 0
   ·have vE : (bF ws != (0 : Int)) = false := by rw [hz]; rfl
    have aF := bL.out
    rw [hz] at aF
    have dz := qh aF
    clear hz aF
    go_wp2
    go_roundw
    case rel => exact ⟨k + 1, by omega, by go_num, dz.out, HB2.out⟩
    case measure => simp [RowKit.intOf]; omega
   ·have vE : (bF ws != (0 : Int)) = true := by rw [bne_iff_ne]; exact hz
    obtain rfl : r = bF ws := HR.out.symm.trans (dX.out hz)
    clear hz
    go_wp2
    go_ret
    exact ⟨rfl, HB2.out⟩
  ·obtain rfl : k = n := by omega
   have aS := cu.out
   rw [List.take_of_length_le (by have := HN.out; omega)] at aS
   obtain rfl : r = 0 := HR.out.symm.trans aS
   go_wp2
   go_ret
   exact ⟨rfl, HB.out⟩
theorem IC (s : ByteArray) : cz [(-1, s)] = if aM s = true then 0 else 16 := by
 unfold cz mr ndsOk jP
 simp [ndsOk]
theorem Ey (s : ByteArray) (w : World) (hs : s.size ≤ maxLen) : Calls Tryz.prog 181 #[.string s] w fun e w' => e = .returned (.bool (aM s)) ∧ Below w.heap.size w w' := by
 have hal := (Below.refl w.heap.size w).alloc (Nat.le_refl _) (.cells #[.int .i64 (-1), .string s] 78)
 have hrd := az w 78 [.int .i64 (-1), .string s] 2 1 rfl
 have htc := kr (.slice (some ⟨w.heap.size, 0, none⟩) 1 1) (w.heap.size + 1) [(-1, s)] (w.alloc (.cells #[.int .i64 (-1), .string s] 78)) ⟨_, _, _, rfl, ⟨Nat.le_refl _, by unfold maxLen; decide⟩, hrd, vT (f := fun x : Nd => [Value.int .i64 x.1, Value.string x.2]) [(-1, s)]⟩ (by simp) (by simpa using hs)
 rw [IC] at htc
 obtain ⟨q, hq⟩ : ∃ q, aM s = q := ⟨_, rfl⟩
 rw [hq] at htc ⊢
 have HT := qh htc; have HB := qh hal
 clear hal hrd htc hq hs
 go_enter Tryz.func181, Tryz.ntmps181
 go_wp2_with fail
 refine HT.out.mono ?_
 rintro e w1 ⟨rfl, hb1⟩
 have HB1 := qh (HB.out.trans (hb1.mono HB.out.size))
 clear hb1
 cases q with
 | true =>
   rw [if_pos rfl]
   go_wp2
   go_ret
   exact ⟨rfl, HB1.out⟩
 | false =>
   rw [if_neg (by decide)]
   go_wp2
   go_ret
   exact ⟨rfl, HB1.out⟩
end Go.Proofs.YtmepaeahchiglaaGreatDoor
