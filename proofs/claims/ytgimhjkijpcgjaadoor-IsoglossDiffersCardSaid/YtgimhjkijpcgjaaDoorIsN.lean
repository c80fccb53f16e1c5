/-
  layer 37: labels of the program: which points open roads connect. Conditions: a map of New that has points; a function that says which roads are open. (Printed by near.py out of XIsN.src.)
-/
import Derived.Test.YtgimhjkijpcgjaaDoorGam
import Derived.Deep.RegionHeldLaw
import Derived.Deep.DeepCutAuto
import Derived.Deep.LoopGhost
namespace Go.Proofs.YtgimhjkijpcgjaaDoor
open Go.RowKit Go.Lib

/-- The memory of labels' first loop. -/
structure NearW (w wr : World) (qE N : Nat) (vR : Value) (R : List Rd) (us : Nat → Value) (near : Nat → List Nat) : Prop where
  nr : NearI wr w.heap.size qE N us near
  rd : wr.ownsRow w.heap.size 71 3 vR R.length (R.flatMap roadV)
  below : Below w.heap.size w wr
section
variable {w wr w' : World} {qE N : Nat} {vR : Value} {R : List Rd} {us : Nat → Value} {near : Nat → List Nat}
theorem NearW.later (h : NearW w wr qE N vR R us near) (hb : Below wr.heap.size wr w') : NearW w w' qE N vR R us near := ⟨h.nr.later hb, own_below h.rd hb, h.below.trans (hb.mono h.below.size)⟩
theorem NearW.alloc (h : NearW w wr qE N vR R us near) (o : Obj) : NearW w (wr.alloc o) qE N vR R us near := h.later ((Below.refl _ _).alloc (Nat.le_refl _) o)
theorem NearW.drew (h : NearW w wr qE N vR R us near) : NearW w wr.drew qE N vR R us near := h.later ((Below.refl _ _).drew)
theorem NearW.push (h : NearW w wr qE N vR R us near) {k : Nat} (hk : k < N) {v' : Value} {l' : List Nat} (hg : wr.grownBy w' (us k).ownBlock) (ho : w'.ownsRow w.heap.size 3 1 v' l'.length (nats l')) (hv : v'.ownBlock = (us k).ownBlock ∨ ∃ g, v'.ownBlock = some g ∧ wr.heap.size ≤ g) :
    NearW w (w'.setCell ⟨qE, k, none⟩ v') qE N vR R (setU us k v') (setU near k l') := by
  have hu := h.nr.rows k hk
  have hlow : ∀ r, (us k).ownBlock = some r → w.heap.size ≤ r := fun r e => (hu.lt r e).1
  have k4 := h.rd.kept hg (own_own_ne h.rd hu (by decide))
  have krow : Blk w' qE 26 (usA N us) := h.nr.row.grown hg (fun e => own_blk_ne hu h.nr.row (by decide) e.symm)
  exact ⟨h.nr.turn hk hg ho hv, ownsRow_setCell_other k4 (own_blk_ne k4 krow (by decide)) _, (h.below.grown hg h.below.size hlow).setCell (p := ⟨qE, k, none⟩) h.nr.hq _⟩
end
theorem addE_set (f : Nat → List Nat) (a b : Nat) (hne : b ≠ a) : setU (setU f a (f a ++ [b])) b (f b ++ [a]) = addE f (a, b) := by
  funext x
  unfold setU addE
  by_cases h1 : x = b
  · subst h1; simp [hne]
  · by_cases h2 : x = a
    · subst h2; simp [h1]
    · simp [h1, h2]
theorem addE_near (R : List Rd) (q : Rd → Bool) {j : Nat} (hj : j < R.length) {a b : Nat} {l : Int} (he : R[j] = ((a : Int), (b : Int), l)) (hne : b ≠ a) (hq : q R[j] = true) :
    setU (setU (nearF (openE (R.take j) q)) a (nearF (openE (R.take j) q) a ++ [b])) b (nearF (openE (R.take j) q) b ++ [a]) = nearF (openE (R.take (j + 1)) q) := by
  rw [addE_set _ a b hne, openE_step R q hj, if_pos hq, nearF_snoc, he]
  rfl
theorem skip_near (R : List Rd) (q : Rd → Bool) {j : Nat} (hj : j < R.length) (hq : q R[j] = false) : nearF (openE (R.take (j + 1)) q) = nearF (openE (R.take j) q) := by
  rw [openE_step R q hj, hq]; simp
theorem nearI_few (R : List Rd) (q : Rd → Bool) (h : R.length ≤ 512) (j a : Nat) : (nearF (openE (R.take j) q) a).length ≤ 1024 := by
  have h1 := near_len (openE (R.take j) q) a
  have h2 := openE_len (R.take j) q
  rw [List.length_take] at h2
  omega
set_option linter.unusedSimpArgs false in
set_option maxRecDepth 40000 in
set_option maxHeartbeats 8000000 in
theorem labelsI_any (p : Option Addr) (om : Option Pts) (w : World) (h : MapO w p om) (hG : NewO om) (hN0 : 0 < lenO om) (fi : Nat) (lb : Array Value) (ei : ∀ args w, (callFunc fi args).run Tryd.prog w = .ok (.enter fi args) w) (q : Rd → Bool)
    (hop : ∀ (W : World) (x : Rd), x ∈ roadsO om → Below w.heap.size w W → Calls Tryd.prog fi (#[roadA x] ++ lb) W fun e w' => e = .returned (.bool (q x)) ∧ Below W.heap.size W w') :
    Calls Tryd.prog 50 #[.pointer p, .func (.func fi) #[] lb] w (GivesI w (lbI (lenO om) (openE (roadsO om) q))) := by
  have hlen := fun W (hW : Below w.heap.size w W) => lenP_any p om W (h.below hW)
  have hrd := fun W (hW : Below w.heap.size w W) => roadsP_any p om W (h.below hW) (Nat.le_trans hG.roads (by decide))
  have hok := hG.okr
  have h512 := hG.roads
  have hfew := hG.few
  obtain ⟨i0, hi, hz0, hz1, hz2⟩ := info_parts (show (Tryd.prog.info? 3).map (fun i => (i.zero, i.size, i.bytes)) = some (some (.int .i64 0), 1, 8) by kernel_rfl)
  have HLEN := Lib.hid hlen; have HRD := Lib.hid hrd; have HOK := Lib.hid hok; have HOP := Lib.hid hop
  clear h hG hlen hrd hok hop
  generalize lenO om = N at *
  generalize roadsO om = R at *
  have hmk := fun W => run_make_row' (P := Tryd.prog) 43 26 (.slice none 0 0) 24 Tryd.underlying43 (by kernel_rfl) rfl .i64 .i64 N (by omega) (by omega) W
  have hl0 := HLEN.out w (Below.refl _ _)
  have hb1 := (Below.refl _ w).alloc (Nat.le_refl _) (.cells (madeCells #[.slice none 0 0] N) 26)
  have hr1 := HRD.out _ hb1
  have HNR := Lib.hid (NearI.made w N); have HB1 := Lib.hid hb1
  clear hb1
  go_enter Tryd.func50, Tryd.ntmps50
  go_wp2_with fail
  refine hl0.mono ?_
  rintro e w' ⟨rfl, rfl⟩
  clear hl0
  go_wp2_with fail
  refine hr1.mono ?_
  rintro e w2 ⟨vR, rfl, hoR, hb2⟩
  obtain ⟨AR, cR, rfl, _, _⟩ := ownsRow_form hoR
  have HM0 : Hid (NearW w w2 w.heap.size N (.slice AR R.length cR) R (fun _ => .slice none 0 0) (nearF (openE (R.take 0) q))) := Lib.hid ⟨HNR.out.later hb2, own_mono hoR HB1.out.size, HB1.out.trans (hb2.mono HB1.out.size)⟩
  clear hoR hb2 hr1 HNR HB1
  obtain ⟨qE, hqE⟩ : ∃ qE, w.heap.size = qE := ⟨_, rfl⟩
  have HQE := Lib.hid hqE
  have HM1 : Hid (NearW w w2 qE N (.slice AR R.length cR) R (fun _ => .slice none 0 0) (nearF (openE (R.take 0) q))) := Lib.hid (hqE ▸ HM0.out)
  go_wp2
  clear hqE HM0
  go_loopw [19] (fun i wr => ∃ (j : Nat) (us : Nat → Value), j ≤ R.length ∧ i = .int .i64 j ∧ NearW w wr qE N (.slice AR R.length cR) R us (nearF (openE (R.take j) q))) (fun i _ => R.length - (intOf i).toNat)
  case atStart => exact ⟨0, _, by omega, rfl, HM1.out⟩
  case round =>
    clear HM1
    obtain ⟨j, us, hj, rfl, hM⟩ := hrel
    have HM := Lib.hid hM
    clear hM
    by_cases hlt : j < R.length
    · obtain ⟨bd, rfl, hbd, hc0, hc1, hc2⟩ := roadI_cells (Reads.of_own HM.out.rd) hlt
      have hxm := List.getElem_mem hlt
      obtain ⟨a0, a1, b0, b1, hab, _, _⟩ := HOK.out _ hxm
      have HADD := Lib.hid (fun (a b : Nat) (l : Int) he hne hq => addE_near R q hlt (a := a) (b := b) (l := l) he hne hq)
      have HSKIP := Lib.hid (skip_near R q hlt)
      obtain ⟨x, hx⟩ : ∃ x, R[j] = x := ⟨_, rfl⟩
      rw [hx] at hc0 hc1 hc2 a0 a1 b0 b1 hab hxm HADD HSKIP
      clear hx
      obtain ⟨xa, xb, xl⟩ := x
      simp only at hc0 hc1 hc2 a0 a1 b0 b1 hab
      obtain ⟨a, rfl⟩ : ∃ k : Nat, xa = k := ⟨xa.toNat, by omega⟩
      obtain ⟨b, rfl⟩ : ∃ k : Nat, xb = k := ⟨xb.toNat, by omega⟩
      have hak : a < N := by omega
      have hbk : b < N := by omega
      have hba : b ≠ a := fun e => hab (by rw [e])
      have hM1 := HM.out.alloc (.cells #[.int .i64 (a : Int), .int .i64 (b : Int), .int .i64 xl] 71)
      have hxb := Blk.new wr 71 #[.int .i64 (a : Int), .int .i64 (b : Int), .int .i64 xl]
      have hopn := HOP.out _ _ hxm hM1.below
      have c0 := hxb.cell 0; have c1 := hxb.cell 1; have c2 := hxb.cell 2
      simp only [List.getElem?_toArray, List.getElem?_cons_zero, List.getElem?_cons_succ] at c0 c1 c2
      have hltI : (j : Int) < (R.length : Int) := by omega
      have HXB := Lib.hid hxb; have HM1 := Lib.hid hM1; have HXM := Lib.hid hxm
      obtain ⟨bq, hbq⟩ : ∃ bq, q ((a : Int), (b : Int), xl) = bq := ⟨_, rfl⟩
      rw [hbq] at hopn
      have HBQ := Lib.hid hbq
      clear hxb hM1 hxm hbq HM
      cases bq
      · go_wp2_with fail
        refine hopn.mono ?_
        rintro e w3 ⟨rfl, hb3⟩
        have HM3 := Lib.hid (HM1.out.later hb3)
        clear hb3
        go_wp2
        go_roundw
        case rel => exact ⟨j + 1, us, by omega, by go_num, by rw [HSKIP.out HBQ.out]; exact HM3.out⟩
        case measure => simp [intOf]; omega
      · go_wp2_with fail
        refine hopn.mono ?_
        rintro e W ⟨rfl, hb3⟩
        have HN1 := Lib.hid (HM1.out.later hb3).nr
        have HMW := Lib.hid (HM1.out.later hb3)
        have HX := Lib.hid (HXB.out.below hb3 HXB.out.lt)
        have HBW := Lib.hid HMW.out.below
        clear hb3 hc0 hc1 hc2 c0 c1 c2 HXB HM1 hopn
        generalize hnear : nearF (openE (R.take j) q) = near at *
        have hna := nearI_few R q h512 j
        rw [hnear] at hna
        have HNA := Lib.hid hna
        clear hnear hna
        have hrow := HN1.out.rows a hak
        obtain ⟨Aa, ca, hua, hca1, hca2⟩ := ownsRow_form hrow
        obtain ⟨na, hnal⟩ : ∃ na, (near a).length = na := ⟨_, rfl⟩
        have hnal2 := HNA.out a
        have hcq := HN1.out.cell hak
        rw [hua, hnal] at hrow
        rw [hua, hnal] at hcq
        rw [hnal] at hua hnal2
        have HUA := Lib.hid hua; have HNL := Lib.hid hnal; have HROW := Lib.hid hrow
        clear hua hnal hrow
        have hca := HX.out.cell 0
        have hcb := HX.out.cell 1
        have hcaA := (HX.out.alloc (.cells #[.int .i64 (b : Int)] 3)).cell 0
        have hcbA := (HX.out.alloc (.cells #[.int .i64 (b : Int)] 3)).cell 1
        have hcqA := (Blk.cell (HN1.out.row.alloc (.cells #[.int .i64 (b : Int)] 3)) a).trans (usA_get us hak)
        have hfz := HN1.out.row.frozen a
        simp only [List.getElem?_toArray, List.getElem?_cons_zero, List.getElem?_cons_succ] at hca hcb hcaA hcbA
        rw [HUA.out] at hcqA
        have hakI : (a : Int) < (N : Int) := by omega
        have hbkI : (b : Int) < (N : Int) := by omega
        go_upto_region 6 with fail
        go_cut [] (fun wx => ∃ us', NearW w wx qE N (.slice (some bd) R.length cR) R us' (setU near a (near a ++ [b])) ∧ Blk wx wr.heap.size 71 #[.int .i64 (a : Int), .int .i64 (b : Int), .int .i64 xl])
        case first =>
          refine wp_region_held_drew (S := (fun w' => w'.cell? ⟨wr.heap.size, 0, none⟩ = some (.int .i64 (a : Int)) ∧ w'.cell? ⟨wr.heap.size, 1, none⟩ = some (.int .i64 (b : Int)))) (by kernel_rfl) ?_ (fun hHeld => ?_)
          · (try dsimp only)
            (first | exact ⟨hca, hcb⟩ | exact ⟨hcaA, hcbA⟩ | exact ⟨kxc, kxd⟩ | exact ⟨mxc, mxd⟩)
          refine wpAnyH_take (i := 0) (v := ?_) rfl (by kernel_rfl) (by kernel_rfl) (by kernel_rfl) (fun _ _ _ h => h) (Or.inl ⟨by rfl, ?_⟩) (by assumption) ?_
          rotate_left
          · intro w hSw
            (try dsimp only at hSw)
            go_simp <;> with_reducible rfl
          try simp only [Act.put, List.setIfInBounds_toArray, List.set_cons_zero, List.set_cons_succ]
          refine wpAnyH_take (i := 1) (v := ?_) rfl (by kernel_rfl) (by kernel_rfl) (by kernel_rfl) (fun _ _ _ h => h) (Or.inl ⟨by rfl, ?_⟩) (by assumption) ?_
          rotate_left
          · intro w hSw
            (try dsimp only at hSw)
            go_simp <;> with_reducible rfl
          try simp only [Act.put, List.setIfInBounds_toArray, List.set_cons_zero, List.set_cons_succ]
          refine wpAnyH_take (i := 2) (v := ?_) rfl (by kernel_rfl) (by kernel_rfl) (by kernel_rfl) (fun _ _ _ h => h) (Or.inl ⟨by rfl, ?_⟩) (by assumption) ?_
          rotate_left
          · intro w hSw
            (try dsimp only at hSw)
            go_simp <;> with_reducible rfl
          try simp only [Act.put, List.setIfInBounds_toArray, List.set_cons_zero, List.set_cons_succ]
          refine wpAnyH_take (i := 3) (v := ?_) rfl (by kernel_rfl) (by kernel_rfl) (by kernel_rfl) (fun _ _ _ h => h) (Or.inl ⟨by rfl, ?_⟩) (by assumption) ?_
          rotate_left
          · intro w hSw
            (try dsimp only at hSw)
            go_simp <;> with_reducible rfl
          try simp only [Act.put, List.setIfInBounds_toArray, List.set_cons_zero, List.set_cons_succ]
          refine wpAnyH_take (i := 4) (v := ?_) rfl (by kernel_rfl) (by kernel_rfl) (by kernel_rfl) (fun _ _ _ h => h) (Or.inl ⟨by rfl, ?_⟩) (by assumption) ?_
          rotate_left
          · intro w hSw
            (try dsimp only at hSw)
            go_simp <;> with_reducible rfl
          try simp only [Act.put, List.setIfInBounds_toArray, List.set_cons_zero, List.set_cons_succ]
          refine wpAnyH_take (i := 5) (v := ?_) rfl (by kernel_rfl) (by kernel_rfl) (by kernel_rfl) (fun _ _ _ h => h) (Or.inl ⟨by rfl, ?_⟩) (by assumption) ?_
          rotate_left
          · intro w hSw
            (try dsimp only at hSw)
            go_simp <;> with_reducible rfl
          try simp only [Act.put, List.setIfInBounds_toArray, List.set_cons_zero, List.set_cons_succ]
          refine wpAnyH_take (i := 6) (v := ?_) rfl (by kernel_rfl) (by kernel_rfl) (by kernel_rfl) (fun _ _ _ h => h) (Or.inl ⟨by rfl, ?_⟩) (by assumption) ?_
          rotate_left
          · intro w hSw
            (try dsimp only at hSw)
            go_simp <;> with_reducible rfl
          try simp only [Act.put, List.setIfInBounds_toArray, List.set_cons_zero, List.set_cons_succ]
          refine wpAnyH_take (i := 8) (v := ?_) rfl (by kernel_rfl) (by kernel_rfl) (by kernel_rfl) (fun _ _ _ h => h) (Or.inl ⟨by rfl, ?_⟩) (by assumption) ?_
          rotate_left
          · intro w hSw
            (try dsimp only at hSw)
            go_simp <;> with_reducible rfl
          try simp only [Act.put, List.setIfInBounds_toArray, List.set_cons_zero, List.set_cons_succ]
          refine wpAnyH_take (i := 9) (v := ?_) rfl (by kernel_rfl) (by kernel_rfl) (by kernel_rfl) (fun _ _ _ h => h) (Or.inl ⟨by rfl, ?_⟩) (by assumption) ?_
          rotate_left
          · intro w hSw
            (try dsimp only at hSw)
            go_simp <;> with_reducible rfl
          try simp only [Act.put, List.setIfInBounds_toArray, List.set_cons_zero, List.set_cons_succ]
          refine wpAnyH_ready (rs := [7, 10]) (by kernel_rfl) (by simp) ?_
          refine AllReadyH.cons rfl (fun K hK => ?_) (AllReadyH.cons rfl (fun K hK => ?_) AllReadyH.nil)
          rotate_left
          go_simp
          refine hK.out _ _ ?_ (fun hHeld' => ?_)
          · (try dsimp only)
            (first | exact ⟨hca, hcb⟩ | exact ⟨hcaA, hcbA⟩ | exact ⟨kxc, kxd⟩ | exact ⟨mxc, mxd⟩)
          clear hK K hHeld
          have hHeld := hHeld'
          clear hHeld'
          refine wpAnyH_ready (rs := [7]) (by kernel_rfl) (by simp) ?_
          refine AllReadyH.cons rfl (fun K hK => ?_) AllReadyH.nil
          go_simp
          refine hK.out _ _ ?_ (fun hHeld' => ?_)
          · (try dsimp only)
            (first | exact ⟨hca, hcb⟩ | exact ⟨hcaA, hcbA⟩ | exact ⟨kxc, kxd⟩ | exact ⟨mxc, mxd⟩)
          clear hK K hHeld
          have hHeld := hHeld'
          clear hHeld'
          refine wpAnyH_ready (rs := [11]) (by kernel_rfl) (by simp) ?_
          refine AllReadyH.cons rfl (fun K hK => ?_) AllReadyH.nil
          (first | (refine step_append_any _ rfl (.tmp 33) (.tmp 36) 26 rfl w.heap.size 3 i0 (.int .i64 0) 1 8 Tryd.underlying26 hi hz0 hz1 hz2 rfl (by decide) (.slice Aa na ca) na (nats (near a)) (by simp [Act.eval, Act.put]) (own_al HROW.out _) (W.heap.size + 1) (some ⟨W.heap.size, 0, none⟩) 1 1 [.int .i64 (b : Int)] (by simp [Act.eval, Act.put]) (reads_new _ _ _) (by simp [Value.oneCell']) (by unfold maxLen; omega) (by omega) (by have := HBW.out.size; simp; omega) ?_; intro v' w7 hown' hgrow hx7; obtain ⟨A7, c7, rfl, _, _⟩ := ownsRow_form hown'; have kx := ((HX.out.alloc (.cells #[.int .i64 (b : Int)] 3)).drew).grown hgrow (fun e => own_blk_ne (own_dr (own_al HROW.out _)) ((HX.out.alloc (.cells #[.int .i64 (b : Int)] 3)).drew) (by decide) e.symm); have kq := ((HN1.out.row.alloc (.cells #[.int .i64 (b : Int)] 3)).drew).grown hgrow (fun e => own_blk_ne (own_dr (own_al HROW.out _)) ((HN1.out.row.alloc (.cells #[.int .i64 (b : Int)] 3)).drew) (by decide) e.symm); have kxc := kx.cell 0; have kxd := kx.cell 1; have mxc := (kx.far (p := ⟨qE, a, none⟩) (Blk.ne_ kx kq (by decide)) (.slice A7 (na + 1) c7)).cell 0; have mxd := (kx.far (p := ⟨qE, a, none⟩) (Blk.ne_ kx kq (by decide)) (.slice A7 (na + 1) c7)).cell 1; have kqf := kq.frozen a; have kqc := (Blk.cell kq a).trans (usA_get us hak); have HKX := Lib.hid kx; have HG7 := Lib.hid hgrow; have HO7 := Lib.hid hown'; have HX7 := Lib.hid hx7; have HKQ := Lib.hid kq; clear kx kq hgrow hown' hx7; simp only [List.getElem?_toArray, List.getElem?_cons_zero, List.getElem?_cons_succ] at kxc kxd mxc mxd; rw [HUA.out] at kqc))
          refine hK.out _ _ ?_ (fun hHeld' => ?_)
          · (try dsimp only)
            (first | exact ⟨hca, hcb⟩ | exact ⟨hcaA, hcbA⟩ | exact ⟨kxc, kxd⟩ | exact ⟨mxc, mxd⟩)
          clear hK K hHeld
          have hHeld := hHeld'
          clear hHeld'
          refine wpAnyH_take (i := 12) (v := ?_) rfl (by kernel_rfl) (by kernel_rfl) (by kernel_rfl) (fun _ _ _ h => h) (Or.inl ⟨by rfl, ?_⟩) (by assumption) ?_
          rotate_left
          · intro w hSw
            (try dsimp only at hSw)
            go_simp <;> with_reducible rfl
          try simp only [Act.put, List.setIfInBounds_toArray, List.set_cons_zero, List.set_cons_succ]
          refine wpAnyH_ready (rs := [13]) (by kernel_rfl) (by simp) ?_
          refine AllReadyH.cons rfl (fun K hK => ?_) AllReadyH.nil
          go_simp
          refine hK.out _ _ ?_ (fun hHeld' => ?_)
          · (try dsimp only)
            (first | exact ⟨hca, hcb⟩ | exact ⟨hcaA, hcbA⟩ | exact ⟨kxc, kxd⟩ | exact ⟨mxc, mxd⟩)
          clear hK K hHeld
          have hHeld := hHeld'
          clear hHeld'
          refine wpAnyH_done (by kernel_rfl) ?_ _
          rotate_left
          go_simp
          refine hK.out _ _ ?_ (fun hHeld' => ?_)
          · (try dsimp only)
            (first | exact ⟨hca, hcb⟩ | exact ⟨hcaA, hcbA⟩ | exact ⟨kxc, kxd⟩ | exact ⟨mxc, mxd⟩)
          clear hK K hHeld
          have hHeld := hHeld'
          clear hHeld'
          refine wpAnyH_ready (rs := [10]) (by kernel_rfl) (by simp) ?_
          refine AllReadyH.cons rfl (fun K hK => ?_) AllReadyH.nil
          go_simp
          refine hK.out _ _ ?_ (fun hHeld' => ?_)
          · (try dsimp only)
            (first | exact ⟨hca, hcb⟩ | exact ⟨hcaA, hcbA⟩ | exact ⟨kxc, kxd⟩ | exact ⟨mxc, mxd⟩)
          clear hK K hHeld
          have hHeld := hHeld'
          clear hHeld'
          refine wpAnyH_ready (rs := [11]) (by kernel_rfl) (by simp) ?_
          refine AllReadyH.cons rfl (fun K hK => ?_) AllReadyH.nil
          (first | (refine step_append_any _ rfl (.tmp 33) (.tmp 36) 26 rfl w.heap.size 3 i0 (.int .i64 0) 1 8 Tryd.underlying26 hi hz0 hz1 hz2 rfl (by decide) (.slice Aa na ca) na (nats (near a)) (by simp [Act.eval, Act.put]) (own_al HROW.out _) (W.heap.size + 1) (some ⟨W.heap.size, 0, none⟩) 1 1 [.int .i64 (b : Int)] (by simp [Act.eval, Act.put]) (reads_new _ _ _) (by simp [Value.oneCell']) (by unfold maxLen; omega) (by omega) (by have := HBW.out.size; simp; omega) ?_; intro v' w7 hown' hgrow hx7; obtain ⟨A7, c7, rfl, _, _⟩ := ownsRow_form hown'; have kx := ((HX.out.alloc (.cells #[.int .i64 (b : Int)] 3)).drew).grown hgrow (fun e => own_blk_ne (own_dr (own_al HROW.out _)) ((HX.out.alloc (.cells #[.int .i64 (b : Int)] 3)).drew) (by decide) e.symm); have kq := ((HN1.out.row.alloc (.cells #[.int .i64 (b : Int)] 3)).drew).grown hgrow (fun e => own_blk_ne (own_dr (own_al HROW.out _)) ((HN1.out.row.alloc (.cells #[.int .i64 (b : Int)] 3)).drew) (by decide) e.symm); have kxc := kx.cell 0; have kxd := kx.cell 1; have mxc := (kx.far (p := ⟨qE, a, none⟩) (Blk.ne_ kx kq (by decide)) (.slice A7 (na + 1) c7)).cell 0; have mxd := (kx.far (p := ⟨qE, a, none⟩) (Blk.ne_ kx kq (by decide)) (.slice A7 (na + 1) c7)).cell 1; have kqf := kq.frozen a; have kqc := (Blk.cell kq a).trans (usA_get us hak); have HKX := Lib.hid kx; have HG7 := Lib.hid hgrow; have HO7 := Lib.hid hown'; have HX7 := Lib.hid hx7; have HKQ := Lib.hid kq; clear kx kq hgrow hown' hx7; simp only [List.getElem?_toArray, List.getElem?_cons_zero, List.getElem?_cons_succ] at kxc kxd mxc mxd; rw [HUA.out] at kqc))
          refine hK.out _ _ ?_ (fun hHeld' => ?_)
          · (try dsimp only)
            (first | exact ⟨hca, hcb⟩ | exact ⟨hcaA, hcbA⟩ | exact ⟨kxc, kxd⟩ | exact ⟨mxc, mxd⟩)
          clear hK K hHeld
          have hHeld := hHeld'
          clear hHeld'
          refine wpAnyH_take (i := 12) (v := ?_) rfl (by kernel_rfl) (by kernel_rfl) (by kernel_rfl) (fun _ _ _ h => h) (Or.inl ⟨by rfl, ?_⟩) (by assumption) ?_
          rotate_left
          · intro w hSw
            (try dsimp only at hSw)
            go_simp <;> with_reducible rfl
          try simp only [Act.put, List.setIfInBounds_toArray, List.set_cons_zero, List.set_cons_succ]
          refine wpAnyH_ready (rs := [13]) (by kernel_rfl) (by simp) ?_
          refine AllReadyH.cons rfl (fun K hK => ?_) AllReadyH.nil
          go_simp
          refine hK.out _ _ ?_ (fun hHeld' => ?_)
          · (try dsimp only)
            (first | exact ⟨hca, hcb⟩ | exact ⟨hcaA, hcbA⟩ | exact ⟨kxc, kxd⟩ | exact ⟨mxc, mxd⟩)
          clear hK K hHeld
          have hHeld := hHeld'
          clear hHeld'
          refine wpAnyH_done (by kernel_rfl) ?_ _
          all_goals
            go_wp2_with fail
            go_meet
            refine ⟨_, ((HMW.out.alloc (.cells #[.int .i64 (b : Int)] 3)).drew).push hak (by rw [HUA.out]; exact HG7.out) (by rw [List.length_append, HNL.out]; simpa [nats] using HO7.out) ?_, HKX.out.far (p := ⟨qE, a, none⟩) (Blk.ne_ HKX.out HKQ.out (by decide)) _⟩
            rw [HUA.out]
            rcases HX7.out with h | h
            · exact .inl h
            · exact .inr ⟨_, h, by first | exact Nat.le_refl _ | (rw [size_drew_, World.size_alloc]; exact Nat.le_refl _)⟩
        case rest =>
          obtain ⟨us2, hM5, hx5⟩ := hcut
          have HM5 := Lib.hid hM5; have HX5 := Lib.hid hx5; have HN5 := Lib.hid hM5.nr; have HBW2 := Lib.hid hM5.below
          clear hM5 hx5 hcq hca hcb hcaA hcbA hcqA hfz HN1 HMW HX HROW HUA HNL HBW hnal2
          have HBW := HBW2
          have hnb2 := HNA.out b
          have HSB := Lib.hid (setU_other (us := near) (v := near a ++ [b]) hba)
          have hrow := HN5.out.rows b hbk
          rw [HSB.out] at hrow
          obtain ⟨Aa, ca, hua, hca1, hca2⟩ := ownsRow_form hrow
          obtain ⟨na, hnal⟩ : ∃ na, (near b).length = na := ⟨_, rfl⟩
          have hcq := HN5.out.cell hbk
          rw [hua, hnal] at hrow
          rw [hua, hnal] at hcq
          rw [hnal] at hua hnb2
          have HUA := Lib.hid hua; have HNL := Lib.hid hnal; have HROW := Lib.hid hrow
          clear hua hnal hrow
          have hca := HX5.out.cell 0
          have hcb := HX5.out.cell 1
          have hcaA := (HX5.out.alloc (.cells #[.int .i64 (a : Int)] 3)).cell 0
          have hcbA := (HX5.out.alloc (.cells #[.int .i64 (a : Int)] 3)).cell 1
          have hcqA := (Blk.cell (HN5.out.row.alloc (.cells #[.int .i64 (a : Int)] 3)) b).trans (usA_get us2 hbk)
          have hfz := HN5.out.row.frozen b
          simp only [List.getElem?_toArray, List.getElem?_cons_zero, List.getElem?_cons_succ] at hca hcb hcaA hcbA
          rw [HUA.out] at hcqA
          go_upto_region 7 with fail
          refine wp_region_held_drew (S := (fun w' => w'.cell? ⟨wr.heap.size, 0, none⟩ = some (.int .i64 (a : Int)) ∧ w'.cell? ⟨wr.heap.size, 1, none⟩ = some (.int .i64 (b : Int)))) (by kernel_rfl) ?_ (fun hHeld => ?_)
          · (try dsimp only)
            (first | exact ⟨hca, hcb⟩ | exact ⟨hcaA, hcbA⟩ | exact ⟨kxc, kxd⟩ | exact ⟨mxc, mxd⟩)
          refine wpAnyH_take (i := 0) (v := ?_) rfl (by kernel_rfl) (by kernel_rfl) (by kernel_rfl) (fun _ _ _ h => h) (Or.inl ⟨by rfl, ?_⟩) (by assumption) ?_
          rotate_left
          · intro w hSw
            (try dsimp only at hSw)
            go_simp <;> with_reducible rfl
          try simp only [Act.put, List.setIfInBounds_toArray, List.set_cons_zero, List.set_cons_succ]
          refine wpAnyH_take (i := 1) (v := ?_) rfl (by kernel_rfl) (by kernel_rfl) (by kernel_rfl) (fun _ _ _ h => h) (Or.inl ⟨by rfl, ?_⟩) (by assumption) ?_
          rotate_left
          · intro w hSw
            (try dsimp only at hSw)
            go_simp <;> with_reducible rfl
          try simp only [Act.put, List.setIfInBounds_toArray, List.set_cons_zero, List.set_cons_succ]
          refine wpAnyH_take (i := 2) (v := ?_) rfl (by kernel_rfl) (by kernel_rfl) (by kernel_rfl) (fun _ _ _ h => h) (Or.inl ⟨by rfl, ?_⟩) (by assumption) ?_
          rotate_left
          · intro w hSw
            (try dsimp only at hSw)
            go_simp <;> with_reducible rfl
          try simp only [Act.put, List.setIfInBounds_toArray, List.set_cons_zero, List.set_cons_succ]
          refine wpAnyH_take (i := 3) (v := ?_) rfl (by kernel_rfl) (by kernel_rfl) (by kernel_rfl) (fun _ _ _ h => h) (Or.inl ⟨by rfl, ?_⟩) (by assumption) ?_
          rotate_left
          · intro w hSw
            (try dsimp only at hSw)
            go_simp <;> with_reducible rfl
          try simp only [Act.put, List.setIfInBounds_toArray, List.set_cons_zero, List.set_cons_succ]
          refine wpAnyH_take (i := 4) (v := ?_) rfl (by kernel_rfl) (by kernel_rfl) (by kernel_rfl) (fun _ _ _ h => h) (Or.inl ⟨by rfl, ?_⟩) (by assumption) ?_
          rotate_left
          · intro w hSw
            (try dsimp only at hSw)
            go_simp <;> with_reducible rfl
          try simp only [Act.put, List.setIfInBounds_toArray, List.set_cons_zero, List.set_cons_succ]
          refine wpAnyH_take (i := 5) (v := ?_) rfl (by kernel_rfl) (by kernel_rfl) (by kernel_rfl) (fun _ _ _ h => h) (Or.inl ⟨by rfl, ?_⟩) (by assumption) ?_
          rotate_left
          · intro w hSw
            (try dsimp only at hSw)
            go_simp <;> with_reducible rfl
          try simp only [Act.put, List.setIfInBounds_toArray, List.set_cons_zero, List.set_cons_succ]
          refine wpAnyH_take (i := 6) (v := ?_) rfl (by kernel_rfl) (by kernel_rfl) (by kernel_rfl) (fun _ _ _ h => h) (Or.inl ⟨by rfl, ?_⟩) (by assumption) ?_
          rotate_left
          · intro w hSw
            (try dsimp only at hSw)
            go_simp <;> with_reducible rfl
          try simp only [Act.put, List.setIfInBounds_toArray, List.set_cons_zero, List.set_cons_succ]
          refine wpAnyH_take (i := 8) (v := ?_) rfl (by kernel_rfl) (by kernel_rfl) (by kernel_rfl) (fun _ _ _ h => h) (Or.inl ⟨by rfl, ?_⟩) (by assumption) ?_
          rotate_left
          · intro w hSw
            (try dsimp only at hSw)
            go_simp <;> with_reducible rfl
          try simp only [Act.put, List.setIfInBounds_toArray, List.set_cons_zero, List.set_cons_succ]
          refine wpAnyH_take (i := 9) (v := ?_) rfl (by kernel_rfl) (by kernel_rfl) (by kernel_rfl) (fun _ _ _ h => h) (Or.inl ⟨by rfl, ?_⟩) (by assumption) ?_
          rotate_left
          · intro w hSw
            (try dsimp only at hSw)
            go_simp <;> with_reducible rfl
          try simp only [Act.put, List.setIfInBounds_toArray, List.set_cons_zero, List.set_cons_succ]
          refine wpAnyH_ready (rs := [7, 10]) (by kernel_rfl) (by simp) ?_
          refine AllReadyH.cons rfl (fun K hK => ?_) (AllReadyH.cons rfl (fun K hK => ?_) AllReadyH.nil)
          rotate_left
          go_simp
          refine hK.out _ _ ?_ (fun hHeld' => ?_)
          · (try dsimp only)
            (first | exact ⟨hca, hcb⟩ | exact ⟨hcaA, hcbA⟩ | exact ⟨kxc, kxd⟩ | exact ⟨mxc, mxd⟩)
          clear hK K hHeld
          have hHeld := hHeld'
          clear hHeld'
          refine wpAnyH_ready (rs := [7]) (by kernel_rfl) (by simp) ?_
          refine AllReadyH.cons rfl (fun K hK => ?_) AllReadyH.nil
          go_simp
          refine hK.out _ _ ?_ (fun hHeld' => ?_)
          · (try dsimp only)
            (first | exact ⟨hca, hcb⟩ | exact ⟨hcaA, hcbA⟩ | exact ⟨kxc, kxd⟩ | exact ⟨mxc, mxd⟩)
          clear hK K hHeld
          have hHeld := hHeld'
          clear hHeld'
          refine wpAnyH_ready (rs := [11]) (by kernel_rfl) (by simp) ?_
          refine AllReadyH.cons rfl (fun K hK => ?_) AllReadyH.nil
          (first | (refine step_append_any _ rfl (.tmp 46) (.tmp 49) 26 rfl w.heap.size 3 i0 (.int .i64 0) 1 8 Tryd.underlying26 hi hz0 hz1 hz2 rfl (by decide) (.slice Aa na ca) na (nats (near b)) (by simp [Act.eval, Act.put]) (own_al HROW.out _) (wc.heap.size + 1) (some ⟨wc.heap.size, 0, none⟩) 1 1 [.int .i64 (a : Int)] (by simp [Act.eval, Act.put]) (reads_new _ _ _) (by simp [Value.oneCell']) (by unfold maxLen; omega) (by omega) (by have := HBW.out.size; simp; omega) ?_; intro v' w7 hown' hgrow hx7; obtain ⟨A7, c7, rfl, _, _⟩ := ownsRow_form hown'; have kx := ((HX5.out.alloc (.cells #[.int .i64 (a : Int)] 3)).drew).grown hgrow (fun e => own_blk_ne (own_dr (own_al HROW.out _)) ((HX5.out.alloc (.cells #[.int .i64 (a : Int)] 3)).drew) (by decide) e.symm); have kq := ((HN5.out.row.alloc (.cells #[.int .i64 (a : Int)] 3)).drew).grown hgrow (fun e => own_blk_ne (own_dr (own_al HROW.out _)) ((HN5.out.row.alloc (.cells #[.int .i64 (a : Int)] 3)).drew) (by decide) e.symm); have kxc := kx.cell 0; have kxd := kx.cell 1; have mxc := (kx.far (p := ⟨qE, b, none⟩) (Blk.ne_ kx kq (by decide)) (.slice A7 (na + 1) c7)).cell 0; have mxd := (kx.far (p := ⟨qE, b, none⟩) (Blk.ne_ kx kq (by decide)) (.slice A7 (na + 1) c7)).cell 1; have kqf := kq.frozen b; have kqc := (Blk.cell kq b).trans (usA_get us2 hbk); have HKX := Lib.hid kx; have HG7 := Lib.hid hgrow; have HO7 := Lib.hid hown'; have HX7 := Lib.hid hx7; have HKQ := Lib.hid kq; clear kx kq hgrow hown' hx7; simp only [List.getElem?_toArray, List.getElem?_cons_zero, List.getElem?_cons_succ] at kxc kxd mxc mxd; rw [HUA.out] at kqc))
          refine hK.out _ _ ?_ (fun hHeld' => ?_)
          · (try dsimp only)
            (first | exact ⟨hca, hcb⟩ | exact ⟨hcaA, hcbA⟩ | exact ⟨kxc, kxd⟩ | exact ⟨mxc, mxd⟩)
          clear hK K hHeld
          have hHeld := hHeld'
          clear hHeld'
          refine wpAnyH_take (i := 12) (v := ?_) rfl (by kernel_rfl) (by kernel_rfl) (by kernel_rfl) (fun _ _ _ h => h) (Or.inl ⟨by rfl, ?_⟩) (by assumption) ?_
          rotate_left
          · intro w hSw
            (try dsimp only at hSw)
            go_simp <;> with_reducible rfl
          try simp only [Act.put, List.setIfInBounds_toArray, List.set_cons_zero, List.set_cons_succ]
          refine wpAnyH_ready (rs := [13]) (by kernel_rfl) (by simp) ?_
          refine AllReadyH.cons rfl (fun K hK => ?_) AllReadyH.nil
          go_simp
          refine hK.out _ _ ?_ (fun hHeld' => ?_)
          · (try dsimp only)
            (first | exact ⟨hca, hcb⟩ | exact ⟨hcaA, hcbA⟩ | exact ⟨kxc, kxd⟩ | exact ⟨mxc, mxd⟩)
          clear hK K hHeld
          have hHeld := hHeld'
          clear hHeld'
          refine wpAnyH_done (by kernel_rfl) ?_ _
          rotate_left
          go_simp
          refine hK.out _ _ ?_ (fun hHeld' => ?_)
          · (try dsimp only)
            (first | exact ⟨hca, hcb⟩ | exact ⟨hcaA, hcbA⟩ | exact ⟨kxc, kxd⟩ | exact ⟨mxc, mxd⟩)
          clear hK K hHeld
          have hHeld := hHeld'
          clear hHeld'
          refine wpAnyH_ready (rs := [10]) (by kernel_rfl) (by simp) ?_
          refine AllReadyH.cons rfl (fun K hK => ?_) AllReadyH.nil
          go_simp
          refine hK.out _ _ ?_ (fun hHeld' => ?_)
          · (try dsimp only)
            (first | exact ⟨hca, hcb⟩ | exact ⟨hcaA, hcbA⟩ | exact ⟨kxc, kxd⟩ | exact ⟨mxc, mxd⟩)
          clear hK K hHeld
          have hHeld := hHeld'
          clear hHeld'
          refine wpAnyH_ready (rs := [11]) (by kernel_rfl) (by simp) ?_
          refine AllReadyH.cons rfl (fun K hK => ?_) AllReadyH.nil
          (first | (refine step_append_any _ rfl (.tmp 46) (.tmp 49) 26 rfl w.heap.size 3 i0 (.int .i64 0) 1 8 Tryd.underlying26 hi hz0 hz1 hz2 rfl (by decide) (.slice Aa na ca) na (nats (near b)) (by simp [Act.eval, Act.put]) (own_al HROW.out _) (wc.heap.size + 1) (some ⟨wc.heap.size, 0, none⟩) 1 1 [.int .i64 (a : Int)] (by simp [Act.eval, Act.put]) (reads_new _ _ _) (by simp [Value.oneCell']) (by unfold maxLen; omega) (by omega) (by have := HBW.out.size; simp; omega) ?_; intro v' w7 hown' hgrow hx7; obtain ⟨A7, c7, rfl, _, _⟩ := ownsRow_form hown'; have kx := ((HX5.out.alloc (.cells #[.int .i64 (a : Int)] 3)).drew).grown hgrow (fun e => own_blk_ne (own_dr (own_al HROW.out _)) ((HX5.out.alloc (.cells #[.int .i64 (a : Int)] 3)).drew) (by decide) e.symm); have kq := ((HN5.out.row.alloc (.cells #[.int .i64 (a : Int)] 3)).drew).grown hgrow (fun e => own_blk_ne (own_dr (own_al HROW.out _)) ((HN5.out.row.alloc (.cells #[.int .i64 (a : Int)] 3)).drew) (by decide) e.symm); have kxc := kx.cell 0; have kxd := kx.cell 1; have mxc := (kx.far (p := ⟨qE, b, none⟩) (Blk.ne_ kx kq (by decide)) (.slice A7 (na + 1) c7)).cell 0; have mxd := (kx.far (p := ⟨qE, b, none⟩) (Blk.ne_ kx kq (by decide)) (.slice A7 (na + 1) c7)).cell 1; have kqf := kq.frozen b; have kqc := (Blk.cell kq b).trans (usA_get us2 hbk); have HKX := Lib.hid kx; have HG7 := Lib.hid hgrow; have HO7 := Lib.hid hown'; have HX7 := Lib.hid hx7; have HKQ := Lib.hid kq; clear kx kq hgrow hown' hx7; simp only [List.getElem?_toArray, List.getElem?_cons_zero, List.getElem?_cons_succ] at kxc kxd mxc mxd; rw [HUA.out] at kqc))
          refine hK.out _ _ ?_ (fun hHeld' => ?_)
          · (try dsimp only)
            (first | exact ⟨hca, hcb⟩ | exact ⟨hcaA, hcbA⟩ | exact ⟨kxc, kxd⟩ | exact ⟨mxc, mxd⟩)
          clear hK K hHeld
          have hHeld := hHeld'
          clear hHeld'
          refine wpAnyH_take (i := 12) (v := ?_) rfl (by kernel_rfl) (by kernel_rfl) (by kernel_rfl) (fun _ _ _ h => h) (Or.inl ⟨by rfl, ?_⟩) (by assumption) ?_
          rotate_left
          · intro w hSw
            (try dsimp only at hSw)
            go_simp <;> with_reducible rfl
          try simp only [Act.put, List.setIfInBounds_toArray, List.set_cons_zero, List.set_cons_succ]
          refine wpAnyH_ready (rs := [13]) (by kernel_rfl) (by simp) ?_
          refine AllReadyH.cons rfl (fun K hK => ?_) AllReadyH.nil
          go_simp
          refine hK.out _ _ ?_ (fun hHeld' => ?_)
          · (try dsimp only)
            (first | exact ⟨hca, hcb⟩ | exact ⟨hcaA, hcbA⟩ | exact ⟨kxc, kxd⟩ | exact ⟨mxc, mxd⟩)
          clear hK K hHeld
          have hHeld := hHeld'
          clear hHeld'
          refine wpAnyH_done (by kernel_rfl) ?_ _
          all_goals
            have hM6 := ((HM5.out.alloc (.cells #[.int .i64 (a : Int)] 3)).drew).push hbk (v' := .slice A7 (na + 1) c7) (l' := near b ++ [a]) (by rw [HUA.out]; exact HG7.out) (by rw [List.length_append, HNL.out]; simpa [nats] using HO7.out) (by
              rw [HUA.out]
              rcases HX7.out with h | h
              · exact .inl h
              · exact .inr ⟨_, h, by first | exact Nat.le_refl _ | (rw [size_drew_, World.size_alloc]; exact Nat.le_refl _)⟩)
            rw [HADD.out a b xl rfl hba HBQ.out] at hM6
            have HM6 := Lib.hid hM6
            clear hM6
            go_wp2
            go_roundw
            case rel => exact ⟨j + 1, _, by omega, by go_num, HM6.out⟩
            case measure => simp [intOf]; omega
    · obtain rfl : j = R.length := by omega
      have HM2 : Hid (NearW w wr qE N (.slice AR R.length cR) R us (nearF (openE R q))) := Lib.hid (by have := HM.out; rwa [List.take_length] at this)
      clear HM
      have hM2 := HM2.out
      have hin := openE_in HOK.out q
      have hmem := mem_near (openE R q)
      have hfewN : ∀ x, (nearF (openE R q) x).length ≤ 1024 := fun x => by have := nearI_few R q h512 R.length x; rwa [List.take_length] at this
      obtain ⟨es, hes⟩ : ∃ es, openE R q = es := ⟨_, rfl⟩
      rw [hes] at hM2 hin hmem hfewN
      have HES := Lib.hid hes
      have HROW := Lib.hid hM2.nr.rows; have HQEB := Lib.hid hM2.nr.row; have HBW := Lib.hid hM2.below
      have HIN := Lib.hid hin; have HMEM := Lib.hid hmem; have HFEW := Lib.hid hfewN
      clear hM2 HM2 hin hmem hfewN hes HOP HOK HRD h512 HQE hmk hj hlt
      generalize nearF es = near at *
      generalize wr = wA at *
      have hb1 := (Below.refl _ wA).alloc (Nat.le_refl _) (.cells #[.int .i64 (-1)] 3)
      have hl1 := HLEN.out _ (HBW.out.trans (hb1.mono HBW.out.size))
      have hrp := repeatI_any (some ⟨wA.heap.size, 0, none⟩) 1 (-1) N (wA.alloc (.cells #[.int .i64 (-1)] 3)) (by rw [World.size_alloc]; exact reads_new wA 3 [.int .i64 (-1)]) hN0 (by omega)
      have HB1 := Lib.hid hb1
      clear hb1 HLEN ei hN0
      go_wp2_with fail
      refine hl1.mono ?_
      rintro e w' ⟨rfl, rfl⟩
      go_wp2_with fail
      refine hrp.mono ?_
      rintro e w3 ⟨qO, rfl, hOB, hqO, hb3⟩
      rw [World.size_alloc] at hqO
      have hb3' : Below wA.heap.size wA w3 := HB1.out.trans (hb3.mono HB1.out.size)
      have HOB := Lib.hid hOB; have HB3 := Lib.hid hb3'; have HQO := Lib.hid hqO
      clear hOB hb3 hb3' hqO hl1 hrp HB1
      go_wp2
      go_loopw [59] (fun i wx => ∃ (a : Nat) (g : Nat → Int), a ≤ N ∧ i = .int .i64 a ∧ Outl es a g ∧ Blk wx qO 3 (rowA N g).toArray ∧ Below wA.heap.size wA wx ∧ w3.heap.size ≤ wx.heap.size) (fun i _ => N - (intOf i).toNat)
      case atStart => exact ⟨0, _, by omega, rfl, Outl.start es, HOB.out, HB3.out, Nat.le_refl _⟩
      case round =>
        obtain ⟨a, g, ha, rfl, hO, hOB, hBx, hsx⟩ := hrel
        have hqlt := HOB.out.lt
        have HO := Lib.hid hO; have HOBx := Lib.hid hOB; have HBX := Lib.hid hBx; have HSX := Lib.hid hsx; have HQLT := Lib.hid hqlt
        clear hO hBx hsx hqlt
        by_cases hlt : a < N
        · have hca := (Blk.cell hOB a).trans (rowA_get g hlt)
          have hfz := hOB.frozen a
          have hltI : (a : Int) < (N : Int) := by omega
          clear hOB
          by_cases hg : 0 ≤ g a
          · have HO2 := Lib.hid (HO.out.skip hg)
            have hgd : decide (0 ≤ g a) = true := decide_eq_true hg
            go_wp2
            go_roundw
            case rel => exact ⟨a + 1, g, by omega, by go_num, HO2.out, HOBx.out, HBX.out, HSX.out⟩
            case measure => simp [intOf]; omega
          · have HBF := Lib.hid (HO.out.begin_ (n := N) (by omega) hlt)
            have hgd : decide (0 ≤ g a) = false := decide_eq_false hg
            have hOB2 : Blk (wr.setCell ⟨qO, a, none⟩ (.int .i64 (a : Int))) qO 3 (rowA N (setF g a a)).toArray := by rw [← rowA_set g hlt]; exact HOBx.out.set_ a _
            have hBX2 : Below wA.heap.size wA (wr.setCell ⟨qO, a, none⟩ (.int .i64 (a : Int))) := HBX.out.setCell (p := ⟨qO, a, none⟩) (by have := HQO.out; show wA.heap.size ≤ qO; omega) _
            have hQ := QRow.first (wr.setCell ⟨qO, a, none⟩ (.int .i64 (a : Int))) a
            obtain ⟨wy, hwy⟩ : ∃ wy, wr.setCell ⟨qO, a, none⟩ (.int .i64 (a : Int)) = wy := ⟨_, rfl⟩
            have hsy : wy.heap.size = wr.heap.size := by rw [← hwy]; exact World.size_setCell _ _ _
            have HWY := Lib.hid hwy
            rw [hwy] at hOB2 hBX2 hQ
            have HS0 : Hid (∃ (T : List Nat) (f : Nat → Int), (bare (setF g a a) N + 1 = bare f N + T.length ∧ bare (setF g a a) N + 1 ≤ 200) ∧ QRow (wy.alloc (.cells #[.int .i64 (a : Int)] 3)) w3.heap.size (.slice (some ⟨wy.heap.size, 0, none⟩) 1 1) T ∧ Bfs es N a g f T ∧ Blk (wy.alloc (.cells #[.int .i64 (a : Int)] 3)) qO 3 (rowA N f).toArray ∧ Below wA.heap.size wA (wy.alloc (.cells #[.int .i64 (a : Int)] 3)) ∧ w3.heap.size ≤ (wy.alloc (.cells #[.int .i64 (a : Int)] 3)).heap.size) := by
              refine Lib.hid ⟨[a], setF g a a, ⟨rfl, by have := bare_le (setF g a a) N; omega⟩, ?_, HBF.out, hOB2.alloc _, hBX2.alloc hBX2.size _, by rw [World.size_alloc]; have := HSX.out; omega⟩
              obtain ⟨g', o', c', cur, h1, h2, h3⟩ := hQ
              exact ⟨g', o', c', cur, h1, by have := HSX.out; omega, h3⟩
            have HMS := Lib.hid (show bare (setF g a a) N ≤ N from bare_le _ _)
            generalize bare (setF g a a) N + 1 = m0 at *
            clear hOB2 hBX2 hQ HBF hsy hg
            go_wp2
            clear hwy hca hfz hgd hltI HWY HOBx HBX HSX HOB HB3
            go_loopg [10] m0 (fun k v wz => ∃ (T : List Nat) (f : Nat → Int), (k = bare f N + T.length ∧ k ≤ 200) ∧ QRow wz w3.heap.size v T ∧ Bfs es N a g f T ∧ Blk wz qO 3 (rowA N f).toArray ∧ Below wA.heap.size wA wz ∧ w3.heap.size ≤ wz.heap.size)
            case atStart => exact HS0.out
            case round =>
              clear HS0
              obtain ⟨T, f, ⟨hk, hk2⟩, hQ, hBf, hOBz, hBz, hsz⟩ := hrel
              obtain ⟨go, oo, co, rfl, hl1, hl2, hgB, hgl⟩ := hQ.form
              have HQ := Lib.hid hQ; have HBF := Lib.hid hBf; have HOB := Lib.hid hOBz; have HBZ := Lib.hid hBz; have HSZ := Lib.hid hsz; have HK := Lib.hid hk
              clear hQ hBf hOBz hBz hsz hk
              cases T with
              | nil =>
                have HFIN := Lib.hid (HO.out.finish HBF.out)
                go_wp2
                go_roundw
                case rel => exact ⟨a + 1, f, by omega, by go_num, HFIN.out, HOB.out, HBZ.out, HSZ.out⟩
                case measure => simp [intOf]; omega
              | cons x T0 =>
                obtain ⟨hxN, hgx, hfx⟩ := HBF.out.todo x (by simp)
                have hcx := HQ.out.cell (j := 0) (by simp)
                simp only [Nat.add_zero, List.getElem_cons_zero] at hcx
                have hrow := HROW.out x hxN
                obtain ⟨Ax, cx, hux, hcx1, hcx2⟩ := ownsRow_form hrow
                have hcq := (HBZ.out.cell (p := ⟨qE, x, none⟩) HQEB.out.lt).trans ((Blk.cell HQEB.out x).trans (usA_get us hxN))
                rw [hux] at hcq hrow
                have HRX := Lib.hid (Reads.of_own hrow)
                have hxI : (x : Int) < (N : Int) := by omega
                have hLd : decide (0 < (x :: T0).length) = true := by simp
                have hLI : (0 : Int) < (((x :: T0).length : Nat) : Int) := by rw [List.length_cons]; omega
                have HEND := Lib.hid (HMEM.out x)
                have hnx := HFEW.out x
                have HMS2 := Lib.hid (show bare f N ≤ N from bare_le _ _)
                have HS1 : Hid (∃ (f2 : Nat → Int) (T2 : List Nat), QRow wr w3.heap.size (.slice (some ⟨go, oo, none⟩) (x :: T0).length co) (x :: T2) ∧ Bfs es N a g f2 (x :: T2) ∧ (∀ y ∈ (near x).take 0, 0 ≤ f2 y) ∧ bare f2 N + T2.length + 1 = gk ∧ Blk wr qO 3 (rowA N f2).toArray ∧ Below wA.heap.size wA wr ∧ w3.heap.size ≤ wr.heap.size) :=
                  Lib.hid ⟨f, T0, HQ.out, HBF.out, fun y h => by simp at h, by have := HK.out; simp at this; omega, HOB.out, HBZ.out, HSZ.out⟩
                clear hrow hgx hfx HROW HQEB HMEM HFEW HBF HOB HBZ HSZ HQ HK HMS2 hux
                generalize hll : (x :: T0).length = ll at *
                obtain ⟨nx, hnxe⟩ : ∃ nx, near x = nx := ⟨_, rfl⟩
                rw [hnxe] at hcq HRX HEND hnx HS1
                clear hnxe hll
                go_wp2
                clear hcx hcq hLd hLI
                go_loopw [10, 85] (fun v i wz => ∃ (j : Nat) (f2 : Nat → Int) (T2 : List Nat), j ≤ nx.length ∧ i = .int .i64 j ∧ QRow wz w3.heap.size v (x :: T2) ∧ Bfs es N a g f2 (x :: T2) ∧ (∀ y ∈ nx.take j, 0 ≤ f2 y) ∧ bare f2 N + T2.length + 1 = gk ∧ Blk wz qO 3 (rowA N f2).toArray ∧ Below wA.heap.size wA wz ∧ w3.heap.size ≤ wz.heap.size) (fun _ i _ => nx.length - (intOf i).toNat)
                case atStart => obtain ⟨f2, T2, h1, h2, h3, h4, h5⟩ := HS1.out; exact ⟨0, f2, T2, by omega, rfl, h1, h2, h3, h4, h5⟩
                case round =>
                  clear HS1
                  obtain ⟨j, f2, T2, hj, rfl, hQ, hBf, hseen, hgk, hOBz, hBz, hsz⟩ := hrel
                  obtain ⟨g2, o2, c2, rfl, hm1, hm2, hgB2, hgl2⟩ := hQ.form
                  have HQ := Lib.hid hQ; have HBF := Lib.hid hBf; have HSEEN := Lib.hid hseen; have HOB := Lib.hid hOBz; have HBZ := Lib.hid hBz; have HSZ := Lib.hid hsz; have HGK := Lib.hid hgk
                  have hT2 : T2.length ≤ 200 := by omega
                  clear hQ hBf hseen hOBz hBz hsz hgk
                  by_cases hlj : j < nx.length
                  · obtain ⟨ad, u, rfl, had, hu, hcu⟩ := Reads.at_ (k := j) HRX.out hlj
                    have hyn := (HEND.out nx[j]).1 (List.getElem_mem hlj)
                    have hyN : nx[j] < N := by
                      rcases hyn with h | h
                      · exact (HIN.out _ h).2
                      · exact (HIN.out _ h).1
                    have htk : nx.take (j + 1) = nx.take j ++ [nx[j]] := List.take_succ_eq_append_getElem hlj
                    have hu2 : u = .int .i64 (nx[j] : Nat) := by
                      rw [nats, List.getElem?_map, List.getElem?_eq_getElem hlj] at hu
                      simpa using hu.symm
                    subst hu2
                    have hcu2 := (HBZ.out.cell (p := ad.add j) (by rw [block_of_add]; exact had)).trans hcu
                    obtain ⟨y, hy⟩ : ∃ y, nx[j] = y := ⟨_, rfl⟩
                    rw [hy] at hyn hyN htk hcu2
                    have HYN := Lib.hid hyn; have HTK := Lib.hid htk
                    clear hu hcu hyn htk hy had
                    have hcy := (Blk.cell HOB.out y).trans (rowA_get f2 hyN)
                    have hfy := HOB.out.frozen y
                    have hyI : (y : Int) < (N : Int) := by omega
                    have hljI : (j : Int) < (nx.length : Int) := by omega
                    by_cases hneg : f2 y < 0
                    · have hnd : decide (f2 y < 0) = true := decide_eq_true hneg
                      have HADD := Lib.hid (HBF.out.add (x := x) (by simp) HYN.out hyN hneg)
                      have HBR := Lib.hid (bare_set (v := (a : Int)) hneg (by omega) N hyN)
                      have hOB2 : Blk (wr.setCell ⟨qO, y, none⟩ (.int .i64 (a : Int))) qO 3 (rowA N (setF f2 y a)).toArray := by rw [← rowA_set f2 hyN]; exact HOB.out.set_ y _
                      have hBX2 : Below wA.heap.size wA (wr.setCell ⟨qO, y, none⟩ (.int .i64 (a : Int))) := HBZ.out.setCell (p := ⟨qO, y, none⟩) (by have := HQO.out; show wA.heap.size ≤ qO; omega) _
                      have hQ2 := (HQ.out.set_ (p := ⟨qO, y, none⟩) HQLT.out (.int .i64 (a : Int)))
                      have hsy : (wr.setCell ⟨qO, y, none⟩ (.int .i64 (a : Int))).heap.size = wr.heap.size := World.size_setCell _ _ _
                      obtain ⟨wy, hwy⟩ : ∃ wy, wr.setCell ⟨qO, y, none⟩ (.int .i64 (a : Int)) = wy := ⟨_, rfl⟩
                      rw [hwy] at hOB2 hBX2 hQ2 hsy
                      have hOB3 := hOB2.alloc (.cells #[.int .i64 (y : Int)] 3)
                      have hBX3 := hBX2.alloc hBX2.size (.cells #[.int .i64 (y : Int)] 3)
                      have hQ3 := hQ2.below ((Below.refl _ wy).alloc (Nat.le_refl _) (.cells #[.int .i64 (y : Int)] 3))
                      have hcl := (Blk.new wy 3 #[.int .i64 (y : Int)]).cell 0
                      simp only [List.getElem?_toArray, List.getElem?_cons_zero] at hcl
                      have hs3 : w3.heap.size ≤ (wy.alloc (.cells #[.int .i64 (y : Int)] 3)).heap.size := by rw [World.size_alloc]; have := HSZ.out; omega
                      have HOB3 := Lib.hid hOB3; have HBX3 := Lib.hid hBX3; have HQ3 := Lib.hid hQ3; have HCL := Lib.hid hcl; have HS3 := Lib.hid hs3
                      clear hOB2 hBX2 hQ2 hsy hOB3 hBX3 hQ3 hcl hs3 hneg
                      go_wp2_with (at_builtin; refine wpList_append_q _ rfl _ _ rfl w3.heap.size HS3.out (.slice (some ⟨g2, o2, none⟩) (x :: T2).length c2) (x :: T2) y rfl HQ3.out ⟨wy.heap.size, 0, none⟩ 1 rfl (by rw [add_at]; exact HCL.out) (by simp; omega) ?_; intro v' w5 hQ5 hg5)
                      have hOB5 := HOB3.out.grown hg5 (fun e => by { have h1 := HQLT.out; have h2 : qO = g2 := (by simpa [Value.ownBlock] using e); omega })
                      have hBX5 := HBX3.out.grown hg5 HBX3.out.size (fun r e => by { have h1 := HQLT.out; have h3 := HQO.out; have h2 : g2 = r := (by simpa [Value.ownBlock] using e); omega })
                      have hS5 := Nat.le_trans HS3.out hg5.size
                      have HQ5 := Lib.hid hQ5; have HOB5 := Lib.hid hOB5; have HBX5 := Lib.hid hBX5; have HS5 := Lib.hid hS5
                      clear hQ5 hg5 hOB5 hBX5 hS5
                      go_roundw
                      case rel =>
                        refine ⟨j + 1, _, T2 ++ [y], by omega, by go_num, by simpa using HQ5.out, HADD.out, fun z hz => ?_, ?_, HOB5.out, HBX5.out, HS5.out⟩
                        · rw [HTK.out] at hz
                          by_cases e : z = y
                          · subst e; rw [setF_same]; omega
                          · rw [setF_other e]
                            rcases List.mem_append.1 hz with hz | hz
                            · exact HSEEN.out z hz
                            · exact absurd (by simpa using hz) e
                        · have h1 := HBR.out
                          have h2 := HGK.out
                          rw [List.length_append, List.length_singleton]; omega
                      case measure => simp [intOf]; omega
                    · have hnd : decide (f2 y < 0) = false := decide_eq_false hneg
                      have HNN := Lib.hid hneg
                      clear hneg
                      go_wp2
                      go_roundw
                      case rel =>
                        refine ⟨j + 1, f2, T2, by omega, by go_num, HQ.out, HBF.out, fun z hz => ?_, HGK.out, HOB.out, HBZ.out, HSZ.out⟩
                        rw [HTK.out] at hz
                        rcases List.mem_append.1 hz with hz | hz
                        · exact HSEEN.out z hz
                        · obtain rfl : z = y := by simpa using hz
                          have := HNN.out
                          omega
                      case measure => simp [intOf]; omega
                  · obtain rfl : j = nx.length := by omega
                    have HPOP := Lib.hid (HBF.out.pop (fun y h => HSEEN.out y (by rw [List.take_length]; exact (HEND.out y).2 h)))
                    clear HSEEN HBF hlj
                    have hm3 : 1 ≤ c2 := by simp at hm1; omega
                    have hm1I : (1 : Int) ≤ (((x :: T2).length : Nat) : Int) := by simp; omega
                    by_cases hc : c2 = 1
                    · subst hc
                      obtain ⟨rfl, hQ9⟩ := HQ.out.tail1
                      have HQ9 := Lib.hid hQ9
                      clear hQ9
                      go_wp2
                      go_roundg (gk - 1)
                      case measure => have := HGK.out; omega
                      case rel => exact ⟨[], f2, ⟨by have := HGK.out; simp at *; omega, by omega⟩, by simpa using HQ9.out, HPOP.out, HOB.out, HBZ.out, HSZ.out⟩
                    · have HQ9 := Lib.hid HQ.out.tail
                      have hc1 : ¬ c2 = 1 := hc
                      go_wp2
                      go_roundg (gk - 1)
                      case measure => have := HGK.out; omega
                      case rel => exact ⟨T2, f2, ⟨by have := HGK.out; omega, by omega⟩, by simpa using HQ9.out, HPOP.out, HOB.out, HBZ.out, HSZ.out⟩
        · obtain rfl : a = N := by omega
          have hrow : (List.range a).map (fun x => Value.int .i64 (g x)) = ((List.range a).map fun x => ((lbF es a x : Nat) : Int)).map (Value.int .i64) := by
            rw [List.map_map]
            exact List.map_congr_left fun x hx => by show Value.int .i64 (g x) = Value.int .i64 _; rw [HO.out.eq HIN.out (List.mem_range.1 hx)]
          have HRW := Lib.hid hrow
          clear hrow
          go_wp2
          go_ret
          refine ⟨_, rfl, ⟨by simp, .inr ⟨qO, a, _, by simp [lbI], by have := HQO.out; have := HBW.out.size; omega, HOBx.out, by simp [lbI], by unfold maxLen; omega, by simp [rowA], ?_⟩⟩, HBW.out.trans (HBX.out.mono HBW.out.size)⟩
          rw [HES.out]
          show List.take ((lbI a es).length * 1) (rowA a g) = (lbI a es).map (Value.int .i64)
          rw [show (lbI a es).length * 1 = (rowA a g).length by simp [lbI, rowA], List.take_length]
          exact HRW.out
end Go.Proofs.YtgimhjkijpcgjaaDoor
