/-
  layer 22: the families and the leaves of a tree. Conditions: a valid tree that can be read. (Printed by pjj.py.)
-/
import Derived.Test.YtmepaeahchiglaaGreatDoorZbam
import Derived.Deep.RegionHeldLaw
namespace Go.Proofs.YtmepaeahchiglaaGreatDoor
open Go.RowKit Go.Lib

abbrev natsV (l : List Nat) : List Value := l.map fun (n : Nat) => Value.int .i64 (n : Int)
theorem natsV_app (l : List Nat) (k : Nat) : natsV (l ++ [k]) = natsV l ++ [.int .i64 (k : Int)] := List.map_append
def setNF (f : Nat → List Nat) (k : Nat) (l : List Nat) : Nat → List Nat := fun i => if i = k then l else f i
/-- Rows of ints, each apart. -/
structure NearI (w : World) (base qE N : Nat) (us : Nat → Value) (near : Nat → List Nat) : Prop where
  row : Blk w qE 144 (usF N us)
  rows : ∀ k, k < N → w.ownsRow base 3 1 (us k) (near k).length (natsV (near k))
  apart : ∀ j k, j < N → k < N → j ≠ k → (us j).ownBlock = none ∨ (us j).ownBlock ≠ (us k).ownBlock
  hq : base ≤ qE
section
variable {w w' : World} {base qE N : Nat} {us : Nat → Value} {near : Nat → List Nat}
theorem NearI.later (h : NearI w base qE N us near) (hb : Below w.heap.size w w') : NearI w' base qE N us near := ⟨h.row.below hb h.row.lt, fun k hk => own_below (h.rows k hk) hb, h.apart, h.hq⟩
theorem NearI.turn (h : NearI w base qE N us near) {k : Nat} (hk : k < N) {v' : Value} {l' : List Nat} (hg : w.grownBy w' (us k).ownBlock) (ho : w'.ownsRow base 3 1 v' l'.length (natsV l')) (hv : v'.ownBlock = (us k).ownBlock ∨ v'.ownBlock = some w.heap.size) :
    NearI (w'.setCell ⟨qE, k, none⟩ v') base qE N (setUF us k v') (setNF near k l') := by
  have hne : (us k).ownBlock ≠ some qE := own_blk_ne (h.rows k hk) h.row (by decide)
  have hrow : Blk w' qE 144 (usF N us) := h.row.grown hg (fun e => hne e.symm)
  refine ⟨by rw [← usF_set us]; exact hrow.set_ k v', fun j hj => ?_, fun i j hi hj hij => ?_, h.hq⟩
  · unfold setUF setNF
    by_cases e : j = k
    · rw [if_pos e, if_pos e]
      exact ownsRow_setCell_other ho (own_blk_ne ho hrow (by decide)) _
    · rw [if_neg e, if_neg e]
      have := (h.rows j hj).kept hg (h.apart j k hj hk e)
      exact ownsRow_setCell_other this (own_blk_ne this hrow (by decide)) _
  · have far : ∀ j, j < N → j ≠ k → (us j).ownBlock = none ∨ (us j).ownBlock ≠ v'.ownBlock := by
      intro j hj e
      rcases hv with hv | hv
      · rw [hv]; exact h.apart j k hj hk e
      · cases hb : (us j).ownBlock with
        | none => exact .inl rfl
        | some b =>
          refine .inr ?_
          rw [hv]
          intro e2
          injection e2 with e2
          have := ((h.rows j hj).lt b hb).2
          omega
    unfold setUF
    by_cases ei : i = k
    · rw [if_pos ei, if_neg (fun e => hij (ei.trans e.symm))]
      rcases far j hj (fun e => hij (ei.trans e.symm)) with h1 | h1
      · cases hv' : v'.ownBlock with
        | none => exact .inl rfl
        | some b => exact .inr (by rw [h1]; simp)
      · exact .inr (Ne.symm h1)
    · rw [if_neg ei]
      by_cases ej : j = k
      · rw [if_pos ej]; exact far i hi ei
      · rw [if_neg ej]; exact h.apart i j hi hj hij
theorem NearI.cell (h : NearI w base qE N us near) {k : Nat} (hk : k < N) : w.cell? ⟨qE, k, none⟩ = some (us k) := (Blk.cell h.row k).trans (usF_get us hk)
end
theorem NearI.made (w : World) (N : Nat) : NearI (w.alloc (.cells (madeCells #[.slice none 0 0] N) 144)) w.heap.size w.heap.size N (fun _ => .slice none 0 0) (fun _ => []) :=
  ⟨by rw [madeCells_us]; exact Blk.new w _ _, fun _ _ => World.ownsRow_nil _ _ _ _, fun _ _ _ _ _ => .inl rfl, Nat.le_refl _⟩
/-- The children of a node among the first nodes. -/
def chF (t : List Nd) (k i : Nat) : List Nat := (List.range k).filter fun u => decide (0 < u ∧ (t[u]?.getD (-1, ⟨#[]⟩)).1 = (i : Int))
theorem chF_next {t : List Nd} {k : Nat} (i : Nat) : chF t (k + 1) i = chF t k i ++ (if 0 < k ∧ (t[k]?.getD (-1, ⟨#[]⟩)).1 = (i : Int) then [k] else []) := by
  unfold chF
  rw [List.range_succ, List.filter_append]
  congr 1
  by_cases h : 0 < k ∧ (t[k]?.getD (-1, ⟨#[]⟩)).1 = (i : Int)
  · rw [if_pos h]; simp [h.1, h.2]
  · rw [if_neg h]; simp; exact fun h1 h2 => h ⟨h1, h2⟩
theorem chF_len (t : List Nd) (k i : Nat) : (chF t k i).length ≤ k := by
  have := List.length_filter_le (fun u => decide (0 < u ∧ (t[u]?.getD (-1, ⟨#[]⟩)).1 = (i : Int))) (List.range k)
  rwa [List.length_range] at this
set_option linter.unusedSimpArgs false in
set_option maxRecDepth 20000 in
set_option maxHeartbeats 4000000 in
theorem families_any (A : Option Addr) (N c B : Nat) (t : List Nd) (w : World) (hr : Reads w B 2 A N (t.flatMap fun x => [Value.int .i64 x.1, Value.string x.2])) (hB : B ≤ w.heap.size) (hN : t.length = N) (h63 : N ≤ 63) (hnd : ∀ (i : Nat) (hi : i < t.length), ndOk i t[i] = true) :
    Calls Tryz.prog 215 #[.slice A N c] w fun e w' => e = .returned (.slice (some ⟨w.heap.size, 0, none⟩) N N) ∧ (∃ us, NearI w' w.heap.size w.heap.size N us (chF t N)) ∧ Below w.heap.size w w' := by
  obtain ⟨i0, hi, hz0, hz1, hz2⟩ := info_parts (show (Tryz.prog.info? 3).map (fun i => (i.zero, i.size, i.bytes)) = some (some (.int .i64 0), 1, 8) by kernel_rfl)
  have hmk := fun W => run_make_row' (P := Tryz.prog) 27 144 (.slice none 0 0) 24 Tryz.underlying27 (by kernel_rfl) rfl .i64 .i64 N (by omega) (by omega) W
  have hm0 := NearI.made w N
  have hb0 := (Below.refl w.heap.size w).alloc (Nat.le_refl _) (.cells (madeCells #[.slice none 0 0] N) 144)
  have HR := Lib.hid hr; have HN := Lib.hid hN; have HND := Lib.hid hnd; have HM0 := Lib.hid hm0; have HB0 := Lib.hid hb0
  clear hr hN hnd hm0 hb0
  go_enter Tryz.func215, Tryz.ntmps215
  go_wp2
  go_loopw [11] (fun i wr => ∃ (k : Nat) (us : Nat → Value), k ≤ N ∧ i = .int .i64 k ∧ NearI wr w.heap.size w.heap.size N us (chF t k) ∧ Below w.heap.size w wr) (fun i _ => N - (RowKit.intOf i).toNat)
  case atStart => exact ⟨0, _, by omega, rfl, HM0.out, HB0.out⟩
  case round =>
    obtain ⟨k, us, hk, rfl, hnr, hbw⟩ := hrel
    have HNR := Lib.hid hnr; have HBW := Lib.hid hbw
    clear hnr hbw HM0 HB0 hmk
    by_cases hlt : k < N
    · have hkI : (k : Int) < (N : Int) := by omega
      have hk0 : (0 : Int) ≤ (k : Int) := by omega
      have hkt : k < t.length := by rw [HN.out]; exact hlt
      obtain ⟨ad, e, had, hcc⟩ := (HR.out.below (HBW.out.mono hB)).row (fun _ => rfl) (by decide) hkt
      subst e
      have e0 := hcc 0 _ rfl
      have e1 := hcc 1 _ rfl
      rw [Nat.add_zero] at e0
      rw [add_next ad (k * 2) 0] at e1
      have hpar := ndOk_par (HND.out k hkt)
      have hch := fun i => chF_next (t := t) (k := k) i
      rw [List.getElem?_eq_getElem hkt] at hch
      generalize t[k] = x at *
      obtain ⟨par, nm⟩ := x
      simp only [Option.getD_some] at *
      have hba := (Below.refl wr.heap.size wr).alloc (Nat.le_refl _) (.cells #[.int .i64 par, .string nm] 78)
      have hn1 := HNR.out.later hba
      have hx1 := Blk.new wr 78 #[.int .i64 par, .string nm]
      have hbw1 := HBW.out.trans (hba.mono HBW.out.size)
      have HN1 := Lib.hid hn1; have HX := Lib.hid hx1; have HB1 := Lib.hid hbw1; have HCH := Lib.hid hch; have HPAR := Lib.hid hpar
      clear hcc hba hn1 hx1 hbw1 hch hpar
      by_cases hkz : 0 < k
      case neg =>
        have hkzI : ¬ (0 : Int) < (k : Int) := by omega
        have heq : chF t k = chF t (k + 1) := by
          funext i
          rw [HCH.out i, if_neg (fun h => hkz h.1), List.append_nil]
        have hn1 := HN1.out
        rw [heq] at hn1
        have HN2 := Lib.hid hn1
        clear heq hn1 hkz
        go_wp2
        go_roundw
        case rel => exact ⟨k + 1, us, by omega, by go_num, HN2.out, HB1.out⟩
        case measure => simp [RowKit.intOf]; omega
      have hkzI : (0 : Int) < (k : Int) := by omega
      obtain ⟨p, hp, hpk⟩ : ∃ p : Nat, par = (p : Int) ∧ p < k := by
        rcases HPAR.out with ⟨h1, -⟩ | ⟨-, h1, h2⟩
        · omega
        · exact ⟨par.toNat, by omega, by omega⟩
      subst hp
      have hpN : p < N := by omega
      have hpI : (p : Int) < (N : Int) := by omega
      have hrow := HN1.out.rows p hpN
      obtain ⟨Ap, cp, hup, hcp1, hcp2⟩ := ownsRow_form hrow
      have hcl := HN1.out.cell hpN
      have hcl2 := (HN1.out.later ((Below.refl _ _).alloc (Nat.le_refl _) (.cells #[.int .i64 (k : Int)] 3))).cell hpN
      have hlen := chF_len t k p
      obtain ⟨np, hnp⟩ : ∃ n, (chF t k p).length = n := ⟨_, rfl⟩
      rw [hnp] at hup hrow hlen
      rw [hup] at hrow hcl hcl2
      obtain ⟨W, hW⟩ : ∃ W, wr.alloc (.cells #[.int .i64 (p : Int), .string nm] 78) = W := ⟨_, rfl⟩
      rw [hW] at HN1 HX HB1 hrow hcl hcl2
      have hXk : ∀ V, Below W.heap.size W V → V.cell? ⟨wr.heap.size, 0, none⟩ = some (.int .i64 (p : Int)) := fun V hV => (hV.cell HX.out.lt).trans (HX.out.cell 0)
      have hxW := HX.out.lt
      have hne : wr.heap.size ≠ w.heap.size := by have := HNR.out.row.lt; omega
      have HUP := Lib.hid hup; have HROW := Lib.hid hrow; have HXK := Lib.hid hXk; have HNP := Lib.hid hnp; have HW := Lib.hid hW; have HCL := Lib.hid hcl; have HCL2 := Lib.hid hcl2
      have hfz := HN1.out.row.frozen p
      have hchn : chF t (k + 1) = setNF (chF t k) p (chF t k p ++ [k]) := by
        funext i
        rw [HCH.out i]
        unfold setNF
        by_cases e : i = p
        · rw [if_pos e, if_pos ⟨hkz, by rw [e]⟩, e]
        · rw [if_neg e, if_neg (fun h => e (by have := h.2; omega)), List.append_nil]
      have HCHN := Lib.hid hchn
      clear hup hrow hXk hnp hW hcl hcl2 hchn hkz HCH HPAR
      go_upto_region 6 with (rw [HW.out])
      clear e0 e1
      refine wp_region_held_drew (S := (fun V => V.cell? ⟨wr.heap.size, 0, none⟩ = some (.int .i64 (p : Int)))) (by kernel_rfl) ?_ (fun hHeld => ?_)
      · (try dsimp only)
        first | exact HXK.out _ (Below.refl _ _).drew | exact HXK.out _ HBA.out | exact HXK2.out | exact HXK3.out
      refine wpAnyH_take (i := 0) (v := ?_) rfl (by kernel_rfl) (by kernel_rfl) (by kernel_rfl) (fun _ _ _ h => h) (Or.inl ⟨by rfl, ?_⟩) (by assumption) ?_
      rotate_left
      · intro w hSw
        (try dsimp only at hSw)
        go_simp <;> with_reducible rfl
      try simp only [Act.put, List.getElem_toArray, List.getElem_cons_succ, List.getElem_cons_zero, List.setIfInBounds_toArray, List.set_cons_zero, List.set_cons_succ]
      refine wpAnyH_take (i := 1) (v := ?_) rfl (by kernel_rfl) (by kernel_rfl) (by kernel_rfl) (fun _ _ _ h => h) (Or.inl ⟨by rfl, ?_⟩) (by assumption) ?_
      rotate_left
      · intro w hSw
        (try dsimp only at hSw)
        go_simp <;> with_reducible rfl
      try simp only [Act.put, List.getElem_toArray, List.getElem_cons_succ, List.getElem_cons_zero, List.setIfInBounds_toArray, List.set_cons_zero, List.set_cons_succ]
      refine wpAnyH_take (i := 2) (v := ?_) rfl (by kernel_rfl) (by kernel_rfl) (by kernel_rfl) (fun _ _ _ h => h) (Or.inl ⟨by rfl, ?_⟩) (by assumption) ?_
      rotate_left
      · intro w hSw
        (try dsimp only at hSw)
        go_simp <;> with_reducible rfl
      try simp only [Act.put, List.getElem_toArray, List.getElem_cons_succ, List.getElem_cons_zero, List.setIfInBounds_toArray, List.set_cons_zero, List.set_cons_succ]
      refine wpAnyH_take (i := 3) (v := ?_) rfl (by kernel_rfl) (by kernel_rfl) (by kernel_rfl) (fun _ _ _ h => h) (Or.inl ⟨by rfl, ?_⟩) (by assumption) ?_
      rotate_left
      · intro w hSw
        (try dsimp only at hSw)
        go_simp <;> with_reducible rfl
      try simp only [Act.put, List.getElem_toArray, List.getElem_cons_succ, List.getElem_cons_zero, List.setIfInBounds_toArray, List.set_cons_zero, List.set_cons_succ]
      refine wpAnyH_take (i := 4) (v := ?_) rfl (by kernel_rfl) (by kernel_rfl) (by kernel_rfl) (fun _ _ _ h => h) (Or.inl ⟨by rfl, ?_⟩) (by assumption) ?_
      rotate_left
      · intro w hSw
        (try dsimp only at hSw)
        go_simp <;> with_reducible rfl
      try simp only [Act.put, List.getElem_toArray, List.getElem_cons_succ, List.getElem_cons_zero, List.setIfInBounds_toArray, List.set_cons_zero, List.set_cons_succ]
      refine wpAnyH_take (i := 5) (v := ?_) rfl (by kernel_rfl) (by kernel_rfl) (by kernel_rfl) (fun _ _ _ h => h) (Or.inl ⟨by rfl, ?_⟩) (by assumption) ?_
      rotate_left
      · intro w hSw
        (try dsimp only at hSw)
        go_simp <;> with_reducible rfl
      try simp only [Act.put, List.getElem_toArray, List.getElem_cons_succ, List.getElem_cons_zero, List.setIfInBounds_toArray, List.set_cons_zero, List.set_cons_succ]
      refine wpAnyH_take (i := 6) (v := ?_) rfl (by kernel_rfl) (by kernel_rfl) (by kernel_rfl) (fun _ _ _ h => h) (Or.inl ⟨by rfl, ?_⟩) (by assumption) ?_
      rotate_left
      · intro w hSw
        (try dsimp only at hSw)
        go_simp <;> with_reducible rfl
      try simp only [Act.put, List.getElem_toArray, List.getElem_cons_succ, List.getElem_cons_zero, List.setIfInBounds_toArray, List.set_cons_zero, List.set_cons_succ]
      refine wpAnyH_take (i := 8) (v := ?_) rfl (by kernel_rfl) (by kernel_rfl) (by kernel_rfl) (fun _ _ _ h => h) (Or.inl ⟨by rfl, ?_⟩) (by assumption) ?_
      rotate_left
      · intro w hSw
        (try dsimp only at hSw)
        go_simp <;> with_reducible rfl
      try simp only [Act.put, List.getElem_toArray, List.getElem_cons_succ, List.getElem_cons_zero, List.setIfInBounds_toArray, List.set_cons_zero, List.set_cons_succ]
      have hbal := ((Below.refl W.heap.size W).alloc (Nat.le_refl _) (.cells #[.int .i64 (k : Int)] 3)).drew
      have HBA := Lib.hid hbal
      have hcl := HCL.out; have hcl2 := HCL2.out
      clear hbal
      refine wpAnyH_ready (rs := [7, 9]) (by kernel_rfl) (by simp) ?_
      refine AllReadyH.cons rfl (fun K hK => ?_) (AllReadyH.cons rfl (fun K hK => ?_) AllReadyH.nil)
      · go_simp
        refine hK.out _ _ ?_ (fun hHeld' => ?_)
        · (try dsimp only)
          first | exact HXK.out _ (Below.refl _ _).drew | exact HXK.out _ HBA.out | exact HXK2.out | exact HXK3.out
        clear hK K hHeld
        have hHeld := hHeld'
        clear hHeld'
        refine wpAnyH_ready (rs := [9]) (by kernel_rfl) (by simp) ?_
        refine AllReadyH.cons rfl (fun K hK => ?_) AllReadyH.nil
        go_simp
        refine hK.out _ _ ?_ (fun hHeld' => ?_)
        · (try dsimp only)
          first | exact HXK.out _ (Below.refl _ _).drew | exact HXK.out _ HBA.out | exact HXK2.out | exact HXK3.out
        clear hK K hHeld
        have hHeld := hHeld'
        clear hHeld'
        refine wpAnyH_ready (rs := [10]) (by kernel_rfl) (by simp) ?_
        refine AllReadyH.cons rfl (fun K hK => ?_) AllReadyH.nil
        (refine step_append_any _ rfl (.tmp 25) (.tmp 27) 144 rfl w.heap.size 3 i0 (.int .i64 0) 1 8 Tryz.underlying144 hi hz0 hz1 hz2 rfl (by decide) (.slice Ap np cp) np (natsV (chF t k p)) (by simp [Act.eval, Act.put]) (own_below HROW.out HBA.out) (W.heap.size + 1) (some ⟨W.heap.size, 0, none⟩) 1 1 [.int .i64 (k : Int)] (by simp [Act.eval, Act.put]) (reads_new _ _ _) (by simp [Value.oneCell']) (by unfold maxLen; omega) (by omega) (Nat.le_trans HB1.out.size HBA.out.size) ?_)
        intro v7 w7 hown7 hgrow7 hx7
        have hrow7 := own_below HROW.out HBA.out
        have hk7 := (HX.out.below HBA.out HX.out.lt).grown hgrow7 (fun e => own_blk_ne hrow7 (HX.out.below HBA.out HX.out.lt) (by decide) e.symm)
        have hq7 := (HN1.out.row.below HBA.out HN1.out.row.lt).grown hgrow7 (fun e => own_blk_ne hrow7 (HN1.out.row.below HBA.out HN1.out.row.lt) (by decide) e.symm)
        have hb7 := (HB1.out.trans (HBA.out.mono HB1.out.size)).grown hgrow7 (Nat.le_trans HB1.out.size HBA.out.size) (fun j hj => (HROW.out.lt j hj).1)
        obtain ⟨A7, c7, rfl, -, -⟩ := ownsRow_form hown7
        have hnr7 := (HN1.out.later HBA.out).turn hpN (by rw [HUP.out]; exact hgrow7) (l' := chF t k p ++ [k]) (by rw [List.length_append, HNP.out, natsV_app]; exact hown7) (by rw [HUP.out]; exact hx7)
        have hfz7 := hq7.frozen p
        have hcq7 := (hq7.cell p).trans (usF_get us hpN)
        have HXK2 := Lib.hid (hk7.cell 0)
        have HXK3 := Lib.hid ((hk7.far (p := ⟨w.heap.size, p, none⟩) hne (.slice A7 (np + 1) c7)).cell 0)
        have HNR7 := Lib.hid hnr7
        have HB7 := Lib.hid (hb7.setCell (p := ⟨w.heap.size, p, none⟩) (Nat.le_refl _) (.slice A7 (np + 1) c7))
        clear hrow7 hk7 hq7 hb7 hnr7 hown7 hgrow7 hx7 hcl hcl2 hfz
        refine hK.out _ _ ?_ (fun hHeld' => ?_)
        · (try dsimp only)
          first | exact HXK.out _ (Below.refl _ _).drew | exact HXK.out _ HBA.out | exact HXK2.out | exact HXK3.out
        clear hK K hHeld
        have hHeld := hHeld'
        clear hHeld'
        refine wpAnyH_take (i := 11) (v := ?_) rfl (by kernel_rfl) (by kernel_rfl) (by kernel_rfl) (fun _ _ _ h => h) (Or.inl ⟨by rfl, ?_⟩) (by assumption) ?_
        rotate_left
        · intro w hSw
          (try dsimp only at hSw)
          go_simp <;> with_reducible rfl
        try simp only [Act.put, List.getElem_toArray, List.getElem_cons_succ, List.getElem_cons_zero, List.setIfInBounds_toArray, List.set_cons_zero, List.set_cons_succ]
        refine wpAnyH_ready (rs := [12]) (by kernel_rfl) (by simp) ?_
        refine AllReadyH.cons rfl (fun K hK => ?_) AllReadyH.nil
        go_simp
        refine hK.out _ _ ?_ (fun hHeld' => ?_)
        · (try dsimp only)
          first | exact HXK.out _ (Below.refl _ _).drew | exact HXK.out _ HBA.out | exact HXK2.out | exact HXK3.out
        clear hK K hHeld
        have hHeld := hHeld'
        clear hHeld'
        refine wpAnyH_done (by kernel_rfl) ?_ _
        rw [← HCHN.out] at HNR7
        go_wp2_with fail
        go_roundw
        case rel => exact ⟨k + 1, _, by omega, by go_num, HNR7.out, HB7.out⟩
        case measure => simp [RowKit.intOf]; omega
      · go_simp
        refine hK.out _ _ ?_ (fun hHeld' => ?_)
        · (try dsimp only)
          first | exact HXK.out _ (Below.refl _ _).drew | exact HXK.out _ HBA.out | exact HXK2.out | exact HXK3.out
        clear hK K hHeld
        have hHeld := hHeld'
        clear hHeld'
        refine wpAnyH_ready (rs := [7]) (by kernel_rfl) (by simp) ?_
        refine AllReadyH.cons rfl (fun K hK => ?_) AllReadyH.nil
        go_simp
        refine hK.out _ _ ?_ (fun hHeld' => ?_)
        · (try dsimp only)
          first | exact HXK.out _ (Below.refl _ _).drew | exact HXK.out _ HBA.out | exact HXK2.out | exact HXK3.out
        clear hK K hHeld
        have hHeld := hHeld'
        clear hHeld'
        refine wpAnyH_ready (rs := [10]) (by kernel_rfl) (by simp) ?_
        refine AllReadyH.cons rfl (fun K hK => ?_) AllReadyH.nil
        (refine step_append_any _ rfl (.tmp 25) (.tmp 27) 144 rfl w.heap.size 3 i0 (.int .i64 0) 1 8 Tryz.underlying144 hi hz0 hz1 hz2 rfl (by decide) (.slice Ap np cp) np (natsV (chF t k p)) (by simp [Act.eval, Act.put]) (own_below HROW.out HBA.out) (W.heap.size + 1) (some ⟨W.heap.size, 0, none⟩) 1 1 [.int .i64 (k : Int)] (by simp [Act.eval, Act.put]) (reads_new _ _ _) (by simp [Value.oneCell']) (by unfold maxLen; omega) (by omega) (Nat.le_trans HB1.out.size HBA.out.size) ?_)
        intro v7 w7 hown7 hgrow7 hx7
        have hrow7 := own_below HROW.out HBA.out
        have hk7 := (HX.out.below HBA.out HX.out.lt).grown hgrow7 (fun e => own_blk_ne hrow7 (HX.out.below HBA.out HX.out.lt) (by decide) e.symm)
        have hq7 := (HN1.out.row.below HBA.out HN1.out.row.lt).grown hgrow7 (fun e => own_blk_ne hrow7 (HN1.out.row.below HBA.out HN1.out.row.lt) (by decide) e.symm)
        have hb7 := (HB1.out.trans (HBA.out.mono HB1.out.size)).grown hgrow7 (Nat.le_trans HB1.out.size HBA.out.size) (fun j hj => (HROW.out.lt j hj).1)
        obtain ⟨A7, c7, rfl, -, -⟩ := ownsRow_form hown7
        have hnr7 := (HN1.out.later HBA.out).turn hpN (by rw [HUP.out]; exact hgrow7) (l' := chF t k p ++ [k]) (by rw [List.length_append, HNP.out, natsV_app]; exact hown7) (by rw [HUP.out]; exact hx7)
        have hfz7 := hq7.frozen p
        have hcq7 := (hq7.cell p).trans (usF_get us hpN)
        have HXK2 := Lib.hid (hk7.cell 0)
        have HXK3 := Lib.hid ((hk7.far (p := ⟨w.heap.size, p, none⟩) hne (.slice A7 (np + 1) c7)).cell 0)
        have HNR7 := Lib.hid hnr7
        have HB7 := Lib.hid (hb7.setCell (p := ⟨w.heap.size, p, none⟩) (Nat.le_refl _) (.slice A7 (np + 1) c7))
        clear hrow7 hk7 hq7 hb7 hnr7 hown7 hgrow7 hx7 hcl hcl2 hfz
        refine hK.out _ _ ?_ (fun hHeld' => ?_)
        · (try dsimp only)
          first | exact HXK.out _ (Below.refl _ _).drew | exact HXK.out _ HBA.out | exact HXK2.out | exact HXK3.out
        clear hK K hHeld
        have hHeld := hHeld'
        clear hHeld'
        refine wpAnyH_take (i := 11) (v := ?_) rfl (by kernel_rfl) (by kernel_rfl) (by kernel_rfl) (fun _ _ _ h => h) (Or.inl ⟨by rfl, ?_⟩) (by assumption) ?_
        rotate_left
        · intro w hSw
          (try dsimp only at hSw)
          go_simp <;> with_reducible rfl
        try simp only [Act.put, List.getElem_toArray, List.getElem_cons_succ, List.getElem_cons_zero, List.setIfInBounds_toArray, List.set_cons_zero, List.set_cons_succ]
        refine wpAnyH_ready (rs := [12]) (by kernel_rfl) (by simp) ?_
        refine AllReadyH.cons rfl (fun K hK => ?_) AllReadyH.nil
        go_simp
        refine hK.out _ _ ?_ (fun hHeld' => ?_)
        · (try dsimp only)
          first | exact HXK.out _ (Below.refl _ _).drew | exact HXK.out _ HBA.out | exact HXK2.out | exact HXK3.out
        clear hK K hHeld
        have hHeld := hHeld'
        clear hHeld'
        refine wpAnyH_done (by kernel_rfl) ?_ _
        rw [← HCHN.out] at HNR7
        go_wp2_with fail
        go_roundw
        case rel => exact ⟨k + 1, _, by omega, by go_num, HNR7.out, HB7.out⟩
        case measure => simp [RowKit.intOf]; omega
    · obtain rfl : k = N := by omega
      go_wp2
      go_ret
      exact ⟨rfl, ⟨us, HNR.out⟩, HBW.out⟩
end Go.Proofs.YtmepaeahchiglaaGreatDoor

namespace Go.Proofs.YtmepaeahchiglaaGreatDoor
open Go.RowKit Go.Lib

def isLeaf (t : List Nd) (v : Nat) : Bool := t.all fun x => decide (x.1 ≠ (v : Int))
theorem leafs_eq (t : List Nd) : leafs t = (List.range t.length).filter (isLeaf t) := rfl
theorem leaf_iff {t : List Nd} (hnd : ∀ (i : Nat) (hi : i < t.length), ndOk i t[i] = true) (v : Nat) : isLeaf t v = decide (chF t t.length v = []) := by
  rw [Bool.eq_iff_iff, decide_eq_true_iff]
  unfold isLeaf chF
  rw [List.all_eq_true, List.filter_eq_nil_iff]
  constructor
  · intro h u hu
    rw [List.mem_range] at hu
    have := h t[u] (List.getElem_mem hu)
    rw [List.getElem?_eq_getElem hu]
    simp only [decide_eq_true_eq, Option.getD_some] at this ⊢
    exact fun h2 => this h2.2
  · intro h x hx
    obtain ⟨u, hu, rfl⟩ := List.mem_iff_getElem.1 hx
    have := h u (List.mem_range.2 hu)
    rw [List.getElem?_eq_getElem hu] at this
    simp only [decide_eq_true_eq, Option.getD_some] at this ⊢
    intro e
    rcases ndOk_par (hnd u hu) with ⟨h0, h1⟩ | ⟨h0, -⟩
    · omega
    · exact this ⟨h0, e⟩
set_option linter.unusedSimpArgs false in
set_option maxRecDepth 20000 in
set_option maxHeartbeats 4000000 in
theorem leaves_any (A : Option Addr) (N c B : Nat) (t : List Nd) (w : World) (hr : Reads w B 2 A N (t.flatMap fun x => [Value.int .i64 x.1, Value.string x.2])) (hB : B ≤ w.heap.size) (hN : t.length = N) (h63 : N ≤ 63) (hnd : ∀ (i : Nat) (hi : i < t.length), ndOk i t[i] = true) :
    Calls Tryz.prog 179 #[.slice A N c] w fun e w' => ∃ v, e = .returned v ∧ w'.ownsRow w.heap.size 3 1 v (leafs t).length (natsV (leafs t)) ∧ Below w.heap.size w w' := by
  obtain ⟨i0, hi, hz0, hz1, hz2⟩ := info_parts (show (Tryz.prog.info? 3).map (fun i => (i.zero, i.size, i.bytes)) = some (some (.int .i64 0), 1, 8) by kernel_rfl)
  have hf := families_any A N c B t w hr hB hN h63 hnd
  have hlf := leaf_iff hnd
  have hle := leafs_eq t
  rw [hN] at hlf hle
  have HF := Lib.hid hf; have HLF := Lib.hid hlf; have HLE := Lib.hid hle
  clear hf hlf hle hr hN hnd
  go_enter Tryz.func179, Tryz.ntmps179
  go_wp2_with fail
  refine HF.out.mono ?_
  rintro e w1 ⟨rfl, ⟨us, hnr⟩, hb1⟩
  have HNR := Lib.hid hnr; have HB1 := Lib.hid hb1
  have hs1 := hb1.size
  clear hnr hb1 HF
  go_wp2
  go_loopw [3, 9] (fun v i wr => ∃ k : Nat, k ≤ N ∧ i = .int .i64 k ∧ wr.ownsRow w1.heap.size 3 1 v ((List.range k).filter (isLeaf t)).length (natsV ((List.range k).filter (isLeaf t))) ∧ Below w1.heap.size w1 wr) (fun _ i _ => N - (RowKit.intOf i).toNat)
  case atStart => exact ⟨0, by omega, rfl, World.ownsRow_nil _ _ _ _, Below.refl _ _⟩
  case round =>
    obtain ⟨k, hk, rfl, hown, hbw⟩ := hrel
    obtain ⟨A3, c3, rfl, hc31, hc32⟩ := ownsRow_form hown
    have HOWN := Lib.hid hown; have HBW := Lib.hid hbw
    clear hown hbw
    by_cases hlt : k < N
    · have hkI : (k : Int) < (N : Int) := by omega
      have hk0 : (0 : Int) ≤ (k : Int) := by omega
      have hn := HNR.out.later HBW.out
      have hcl := hn.cell hlt
      obtain ⟨Ak, ck, huk, -, -⟩ := ownsRow_form (hn.rows k hlt)
      rw [huk] at hcl
      have hst : ((List.range (k + 1)).filter (isLeaf t)) = ((List.range k).filter (isLeaf t)) ++ (if isLeaf t k = true then [k] else []) := by
        rw [List.range_succ, List.filter_append]
        congr 1
        by_cases h : isLeaf t k = true
        · rw [if_pos h]; simp [h]
        · rw [if_neg h]; simp [h]
      have hlk := HLF.out k
      have hfew : ((List.range k).filter (isLeaf t)).length ≤ k := by
        have := List.length_filter_le (isLeaf t) (List.range k)
        rwa [List.length_range] at this
      obtain ⟨nc, hnc⟩ : ∃ n, (chF t N k).length = n := ⟨_, rfl⟩
      rw [hnc] at hcl huk
      have hlk2 : isLeaf t k = decide (nc = 0) := by
        rw [hlk, ← hnc]
        exact decide_eq_decide.2 List.length_eq_zero_iff.symm
      obtain ⟨l, hl⟩ : ∃ l, (List.range k).filter (isLeaf t) = l := ⟨_, rfl⟩
      rw [hl] at HOWN hst hfew hc31 ⊢
      have HST := Lib.hid hst; have HLK := Lib.hid hlk2; have HCL := Lib.hid hcl
      obtain ⟨m, hm⟩ : ∃ m, l.length = m := ⟨_, rfl⟩
      rw [hm] at HOWN hfew hc31 ⊢
      have HM := Lib.hid hm
      clear hn huk hst hlk hnc hlk2 hl hm
      by_cases hz : nc = 0
      · have hzI : ((nc : Int) == 0) = true := by rw [hz]; rfl
        have hst := HST.out
        rw [HLK.out, decide_eq_true hz, if_pos rfl] at hst
        have hal := (Below.refl wr.heap.size wr).alloc (Nat.le_refl _) (.cells #[.int .i64 (k : Int)] 3)
        have hrn := reads_new wr 3 [.int .i64 (k : Int)]
        have HST2 := Lib.hid hst; have HRN := Lib.hid hrn; have HO2 := Lib.hid (own_below HOWN.out hal); have HB2 := Lib.hid (HBW.out.trans (hal.mono HBW.out.size))
        have hs2 : w1.heap.size ≤ (wr.alloc (.cells #[.int .i64 (k : Int)] 3)).heap.size := Nat.le_trans HBW.out.size hal.size
        have HS2 := Lib.hid hs2
        clear hst hz hal hrn hs2 HST
        go_wp2_with (at_builtin; refine wpList_append_any _ rfl _ _ 144 rfl w1.heap.size 3 i0 (.int .i64 0) 1 8 Tryz.underlying144 hi hz0 hz1 hz2 rfl (by decide) _ _ _ rfl HO2.out _ _ _ _ [.int .i64 (k : Int)] rfl HRN.out (by simp [Value.oneCell']) (by unfold maxLen; omega) (by omega) HS2.out ?_; intro v4 w4 hown4 hgrow4 hgx; clear hgx)
        have hb4 := HB2.out.grown hgrow4 HS2.out (fun j hj => (HO2.out.lt j hj).1)
        go_roundw
        case rel => exact ⟨k + 1, by omega, by go_num, by rw [HST2.out, List.length_append, HM.out, natsV_app]; exact hown4, hb4⟩
        case measure => simp [RowKit.intOf]; omega
      · have hzI : ((nc : Int) == 0) = false := by rw [beq_eq_false_iff_ne]; omega
        have hst := HST.out
        rw [HLK.out, decide_eq_false hz, if_neg (by decide), List.append_nil] at hst
        have HST2 := Lib.hid hst
        clear hst hz HST
        go_wp2
        go_roundw
        case rel => exact ⟨k + 1, by omega, by go_num, by rw [HST2.out, HM.out]; exact HOWN.out, HBW.out⟩
        case measure => simp [RowKit.intOf]; omega
    · obtain rfl : k = N := by omega
      have hown := HOWN.out
      rw [← HLE.out] at hown ⊢
      have HO := Lib.hid hown
      clear hown
      go_wp2
      go_ret
      exact ⟨_, rfl, own_mono HO.out hs1, HB1.out.trans (HBW.out.mono hs1)⟩
set_option maxRecDepth 20000 in
theorem Leaves_any (v : Value) (B : Nat) (t : List Nd) (w : World) (h : SlC NdC 2 w B t v) (hB : B ≤ w.heap.size) (hs : ∀ x ∈ t, x.2.size ≤ maxLen) (ht : treeE t = 0) :
    Calls Tryz.prog 130 #[v] w fun e w' => ∃ A c, e = .returned (.tuple #[.slice A (leafs t).length c, .int .i64 0]) ∧ Below w.heap.size w w' := by
  obtain ⟨A, c, rfl, hc, hr⟩ := h.flat
  have htc := treeCheck_any _ B t w h hB hs
  rw [ht] at htc
  obtain ⟨h63, -, hnd⟩ := treeE_nodes ht
  have hl := fun (W : World) (hW : Below w.heap.size w W) => leaves_any A t.length c B t W (hr.below (hW.mono hB)) (Nat.le_trans hB hW.size) rfl h63 hnd
  have HTC := Lib.hid htc; have HL := Lib.hid hl
  clear htc hl hr hs ht hnd h
  go_enter Tryz.func130, Tryz.ntmps130
  go_wp2_with fail
  refine HTC.out.mono ?_
  rintro e w1 ⟨rfl, hb1⟩
  have HB1 := Lib.hid hb1
  clear hb1
  go_wp2_with fail
  refine (HL.out w1 HB1.out).mono ?_
  rintro e w2 ⟨v2, rfl, ho, hb2⟩
  obtain ⟨A2, c2, rfl, -, -⟩ := ownsRow_form ho
  have HB2 := Lib.hid (HB1.out.trans (hb2.mono HB1.out.size))
  clear hb2 ho
  go_wp2
  go_ret2
  exact ⟨_, _, rfl, HB2.out⟩
end Go.Proofs.YtmepaeahchiglaaGreatDoor
