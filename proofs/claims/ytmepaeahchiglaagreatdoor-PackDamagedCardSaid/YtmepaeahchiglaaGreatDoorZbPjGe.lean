/-
  layer 43: histories, read by the program. Conditions: bytes that can be read. (Printed by pjproj.py.)
-/
import Derived.Test.YtmepaeahchiglaaGreatDoorZbay
import Derived.Test.YtmepaeahchiglaaGreatDoorZbPjGb4
import Derived.Deep.RegionHeldLaw
namespace Go.Proofs.YtmepaeahchiglaaGreatDoor
open Go.RowKit Go.Lib

theorem someNode_ls (w : World) (g b2 : Nat) (bs : List Nat) (h : Rd w g bs) (h2 : Blk w b2 104 #[wptr g]) :
    Calls Tryz.prog 161 #[wptr g, .func (.func 162) #[] #[wptr b2]] w (LsPost g 2 NdF w (someR ndR bs)) :=
  someD_any w g b2 bs h fun W b hW hc => node_el W g b2 b hW (h2.chg hc (by have := h.ne h2; simpa using this))
theorem someLaw_ls (w : World) (g : Nat) (bs : List Nat) (h : Rd w g bs) :
    Calls Tryz.prog 163 #[wptr g, .func (.func 63) #[wptr g] #[]] w (LsPost g 18 LawF w (someR lawR bs)) :=
  someL_any w g bs h fun W b hW _ => law_el W g b hW
theorem someInt_ls (w : World) (g : Nat) (bs : List Nat) (h : Rd w g bs) :
    Calls Tryz.prog 164 #[wptr g, .func (.func 138) #[wptr g] #[]] w (LsPost g 1 IntF w (someR intR bs)) :=
  someI_any w g bs h fun W b hW _ => int_el W g b hW
set_option linter.unusedSimpArgs false in
set_option linter.unusedVariables false in
set_option maxRecDepth 20000 in
set_option maxHeartbeats 8000000 in
theorem history_el (w : World) (g : Nat) (r0 : List Nat) (h : Rd w g r0) :
    Calls Tryz.prog 114 #[wptr g] w (ElPost g HsF aggM w (histR r0)) := by
  have hs := PjSt.start h 29 #[.slice none 0 0, .slice none 0 0, .slice none 0 0]
  obtain ⟨W0, hW⟩ : ∃ W, ((w.alloc (.cells #[wptr g] 104)).alloc (.cells #[.slice none 0 0, .slice none 0 0, .slice none 0 0] 29)).alloc (.cells #[.slice none 0 0, .slice none 0 0, .slice none 0 0] 29) = W := ⟨_, rfl⟩
  have hp0 : (((w.alloc (.cells #[wptr g] 104)).alloc (.cells #[.slice none 0 0, .slice none 0 0, .slice none 0 0] 29)).alloc (.cells #[.slice none 0 0, .slice none 0 0, .slice none 0 0] 29)).cell? ⟨w.heap.size, 0, none⟩ = some (wptr g) := hs.ptr
  rw [hW] at hs
  have hp := hs.ptr
  obtain ⟨o, ho⟩ : ∃ o, histR r0 = o := ⟨_, rfl⟩
  rw [ho]
  unfold histR at ho
  have HS := Lib.hid hs; have HW := Lib.hid hW; have HO := Lib.hid ho
  clear hs h hW ho
  go_enter Tryz.func114, Tryz.ntmps114
  go_wp2_with fail
  rw [HW.out]
  have ho := HO.out
  clear HO HW hp0
  have hcall := someNode_ls W0 g w.heap.size r0 HS.out.rd HS.out.cb
  cases hr : someR ndR r0 with
  | none =>
    rw [hr] at hcall
    rw [thenR_none hr] at ho
    subst ho
    refine hcall.mono ?_
    rintro e w1 ⟨h1, rfl⟩
    exact ⟨rfl, HS.out.ch.trans h1, rfl⟩
  | some q =>
    obtain ⟨l1, r1⟩ := q
    rw [hr] at hcall
    rw [thenR_some hr] at ho
    refine hcall.mono ?_
    rintro e u1 ⟨h1, v, rfl, h2, h3⟩
    obtain ⟨A0, c0, rfl⟩ := h2.form
    have hsl0 := h2.new3 (keep_plain _) HS.out.size
    have hs := HS.out.chg h1 h3
    have HN30 := Lib.hid (Nat.le_trans (someR_len hr HS.out.rd.all) HS.out.rd.bytes)
    have hcc : Chg [w.heap.size + 1 + 1] u1 (u1.setCell ⟨w.heap.size + 1 + 1, 0, none⟩ (.slice A0 l1.length c0)) := ((Chg.refl [w.heap.size + 1 + 1] u1).setCell (p := ⟨w.heap.size + 1 + 1, 0, none⟩) (.inl (by simp)) (.slice A0 l1.length c0))
    have hsl0 := hsl0.later3 (keep_plain _) hcc (by simp)
    have hs2 := (hs.set_ 0 (.slice A0 l1.length c0))
    simp only [List.setIfInBounds_toArray, List.set_cons_zero, List.set_cons_succ] at hs2
    have x0 := hs.bx.cell 0; have y0 := hs.bx.frozen 0
    simp only [List.getElem?_toArray, List.getElem?_cons_zero, List.getElem?_cons_succ] at x0
    have hp := hs2.ptr
    obtain ⟨W1, hW⟩ : ∃ W, u1.setCell ⟨w.heap.size + 1 + 1, 0, none⟩ (.slice A0 l1.length c0) = W := ⟨_, rfl⟩
    rw [hW] at hs2 hsl0
    have hp2 := hs2.ptr
    have HW := Lib.hid hW; have HO := Lib.hid ho
    have SL0 := Lib.hid hsl0
    clear HS
    have HS := Lib.hid hs2
    clear hcall hr h1 h3 h2 hs hcc hs2 hW ho hsl0
    go_wp2_with fail
    rw [HW.out]
    have ho := HO.out
    clear HO HW x0 y0 hp
    have hcall := someLaw_ls W1 g r1 HS.out.rd
    cases hr : someR lawR r1 with
    | none =>
      rw [hr] at hcall
      rw [thenR_none hr] at ho
      subst ho
      refine hcall.mono ?_
      rintro e w1 ⟨h1, rfl⟩
      exact ⟨rfl, HS.out.ch.trans h1, rfl⟩
    | some q =>
      obtain ⟨l2, r2⟩ := q
      rw [hr] at hcall
      rw [thenR_some hr] at ho
      refine hcall.mono ?_
      rintro e u2 ⟨h1, v, rfl, h2, h3⟩
      obtain ⟨A1, c1, rfl⟩ := h2.form
      have hsl1 := h2.new3 keep_law HS.out.size
      have hs := HS.out.chg h1 h3
      have hcc : Chg [w.heap.size + 1 + 1] u2 (u2.setCell ⟨w.heap.size + 1 + 1, 1, none⟩ (.slice A1 l2.length c1)) := ((Chg.refl [w.heap.size + 1 + 1] u2).setCell (p := ⟨w.heap.size + 1 + 1, 1, none⟩) (.inl (by simp)) (.slice A1 l2.length c1))
      have hsl0 := (SL0.out.later3 (keep_plain _) h1 (by have := HS.out.gw; simp; omega)).later3 (keep_plain _) hcc (by simp)
      have hsl1 := hsl1.later3 keep_law hcc (by simp)
      have hs2 := (hs.set_ 1 (.slice A1 l2.length c1))
      simp only [List.setIfInBounds_toArray, List.set_cons_zero, List.set_cons_succ] at hs2
      have x1 := hs.bx.cell 1; have y1 := hs.bx.frozen 1
      simp only [List.getElem?_toArray, List.getElem?_cons_zero, List.getElem?_cons_succ] at x1
      have hl0 := hs2.bx.cell 0
      simp only [List.getElem?_toArray, List.getElem?_cons_zero] at hl0
      have hp := hs2.ptr
      obtain ⟨W2, hW⟩ : ∃ W, u2.setCell ⟨w.heap.size + 1 + 1, 1, none⟩ (.slice A1 l2.length c1) = W := ⟨_, rfl⟩
      rw [hW] at hs2 hsl0 hsl1
      have hp2 := hs2.ptr
      have HW := Lib.hid hW; have HO := Lib.hid ho
      have SL0 := Lib.hid hsl0
      have SL1 := Lib.hid hsl1
      clear HS
      have HS := Lib.hid hs2
      clear hcall hr h1 h3 h2 hs hcc hs2 hW ho hsl0 hsl1
      obtain ⟨i0, hi, hz0, hz1, hz2⟩ := info_parts (show (Tryz.prog.info? 144).map (fun i => (i.zero, i.size, i.bytes)) = some (some (.slice none 0 0), 1, 24) by kernel_rfl)
      have hn30 : l1.length ≤ 1073741824 := HN30.out
      have hszb := HS.out.size
      have hgw := HS.out.gw
      obtain ⟨o2, ho2⟩ : ∃ o2, manyR (someR intR) l1.length r2 = o2 := ⟨_, rfl⟩
      have ho := HO.out
      have hoo : o = o2.bind fun x => some ((⟨l1, l2, x.1⟩ : Hs), x.2) := by
        rw [← ho]
        cases o2 with
        | none => rw [thenR_none ho2]; rfl
        | some x => obtain ⟨y, t⟩ := x; rw [thenR_some ho2]; rfl
      have HO2 := Lib.hid ho2; have HOO := Lib.hid hoo
      clear ho2 hoo ho HO
      have hl2 := HS.out.bx.cell 0
      simp only [List.getElem?_toArray, List.getElem?_cons_zero] at hl2
      go_wp2_with (rw [HW.out])
      clear HW x1 y1 hp hl0 hl2
      go_loopw [16] (fun i wr => ∃ k : Nat, ∃ ol : List (List Int), ∃ v : Value, ∃ xs : List Value, ∃ b : List Nat, k ≤ l1.length ∧ i = .int .i64 k ∧ ol.length = k ∧ wr.ownsRow W2.heap.size 144 1 v k xs ∧ RowsF OnF wr (fun b => W2.heap.size ≤ b ∧ b < wr.heap.size ∧ v.ownBlock ≠ some b) ol xs ∧ preO ol (manyR (someR intR) (l1.length - k) b) = o2 ∧ PjSt w wr g b 29 #[.slice none 0 0, .slice none 0 0, .slice none 0 0] #[.slice A0 l1.length c0, .slice A1 l2.length c1, v] ∧ Chg [g, w.heap.size + 1 + 1] W2 wr) (fun i _ => l1.length - (Lib.intOf i).toNat)
      case atStart => exact ⟨0, [], .slice none 0 0, [], r2, by omega, rfl, rfl, World.ownsRow_nil _ _ _ _, rfl, by rw [preO_nil]; exact HO2.out, HS.out, Chg.refl _ _⟩
      case round =>
        obtain ⟨k, ol, v, xs, b, hk, rfl, hll, hown, hrows, hpre, hs, hch⟩ := hrel
        obtain ⟨A5, c5, rfl, hk5, hc5⟩ := ownsRow_form hown
        have hszr := hch.size
        have HLL := Lib.hid hll; have HOWN := Lib.hid hown; have HROWS := Lib.hid hrows; have HST := Lib.hid hs; have HCH := Lib.hid hch
        clear hll hown hrows hs hch hk5 hc5
        by_cases hkn : k < l1.length
        · have hkI : (k : Int) < (l1.length : Int) := by omega
          rw [show l1.length - k = (l1.length - (k + 1)) + 1 by omega] at hpre
          have hd : PjSt w wr.drew g b 29 #[.slice none 0 0, .slice none 0 0, .slice none 0 0] #[.slice A0 l1.length c0, .slice A1 l2.length c1, .slice A5 k c5] := HST.out.drew
          have hcall := someInt_ls wr.drew g b hd.rd
          have hq1 := hd.ptr
          have hq2 := hd.bx.cell 2
          simp only [List.getElem?_toArray, List.getElem?_cons_zero, List.getElem?_cons_succ] at hq2
          have HD := Lib.hid hd
          clear hd
          cases hr : someR intR b with
          | none =>
            rw [hr] at hcall
            rw [preO_none _ hr] at hpre
            have hoo := HOO.out
            subst hpre
            have hoo' : o = none := hoo
            subst hoo'
            have HCALL := Lib.hid hcall
            clear hr hcall hoo
            go_wp2
            refine wp_region_held_drew (S := (fun W => W.cell? ⟨w.heap.size, 0, none⟩ = some (wptr g) ∧ W.cell? ⟨w.heap.size + 1 + 1, 2, none⟩ = some (.slice A5 k c5))) (by kernel_rfl) ?_ (fun hHeld => ?_)
            · (try dsimp only)
              (first | exact ⟨hq1, hq2⟩ | exact hs2)
            refine wpAnyH_take (i := 0) (v := ?_) rfl (by kernel_rfl) (by kernel_rfl) (by kernel_rfl) (fun _ _ _ h => h) (Or.inl ⟨by rfl, ?_⟩) (by assumption) ?_
            rotate_left
            · intro w hSw
              (try dsimp only at hSw)
              go_simp <;> with_reducible rfl
            try simp only [Act.put, List.getElem_toArray, List.getElem_cons_succ, List.getElem_cons_zero, List.setIfInBounds_toArray, List.set_cons_zero, List.set_cons_succ]
            refine wpAnyH_take (i := 1) (v := ?_) rfl (by kernel_rfl) (by kernel_rfl) (by kernel_rfl) (fun _ _ _ h => h) (Or.inl ⟨by rfl, ?_⟩) (by assumption) ?_
            rotate_left
            · intro w hSw
              (try dsimp only at hSw)
              go_simp <;> with_reducible rfl
            try simp only [Act.put, List.getElem_toArray, List.getElem_cons_succ, List.getElem_cons_zero, List.setIfInBounds_toArray, List.set_cons_zero, List.set_cons_succ]
            refine wpAnyH_take (i := 2) (v := ?_) rfl (by kernel_rfl) (by kernel_rfl) (by kernel_rfl) (fun _ _ _ h => h) (Or.inl ⟨by rfl, ?_⟩) (by assumption) ?_
            rotate_left
            · intro w hSw
              (try dsimp only at hSw)
              go_simp <;> with_reducible rfl
            try simp only [Act.put, List.getElem_toArray, List.getElem_cons_succ, List.getElem_cons_zero, List.setIfInBounds_toArray, List.set_cons_zero, List.set_cons_succ]
            refine wpAnyH_take (i := 3) (v := ?_) rfl (by kernel_rfl) (by kernel_rfl) (by kernel_rfl) (fun _ _ _ h => h) (Or.inl ⟨by rfl, ?_⟩) (by assumption) ?_
            rotate_left
            · intro w hSw
              (try dsimp only at hSw)
              go_simp <;> with_reducible rfl
            try simp only [Act.put, List.getElem_toArray, List.getElem_cons_succ, List.getElem_cons_zero, List.setIfInBounds_toArray, List.set_cons_zero, List.set_cons_succ]
            refine wpAnyH_take (i := 4) (v := ?_) rfl (by kernel_rfl) (by kernel_rfl) (by kernel_rfl) (fun _ _ _ h => h) (Or.inl ⟨by rfl, ?_⟩) (by assumption) ?_
            rotate_left
            · intro w hSw
              (try dsimp only at hSw)
              go_simp <;> with_reducible rfl
            try simp only [Act.put, List.getElem_toArray, List.getElem_cons_succ, List.getElem_cons_zero, List.setIfInBounds_toArray, List.set_cons_zero, List.set_cons_succ]
            refine wpAnyH_ready (rs := [5]) (by kernel_rfl) (by simp) ?_
            refine AllReadyH.cons rfl (fun K hK => ?_) AllReadyH.nil
            go_simp
            (try go_wp2_with fail)
            refine HCALL.out.mono ?_
            rintro e w2 ⟨h1, rfl⟩
            exact ⟨rfl, HD.out.ch.trans h1, rfl⟩
          | some q =>
            obtain ⟨x, b'⟩ := q
            rw [hr] at hcall
            rw [preO_some _ hr] at hpre
            have HCALL := Lib.hid hcall; have HP := Lib.hid hpre
            clear hr hcall hpre
            go_wp2
            refine wp_region_held_drew (S := (fun W => W.cell? ⟨w.heap.size, 0, none⟩ = some (wptr g))) (by kernel_rfl) ?_ (fun hHeld => ?_)
            · (try dsimp only)
              (first | exact hq1 | exact hs2 | exact hs3 | exact hs4 | exact hs5)
            refine wpAnyH_take (i := 0) (v := ?_) rfl (by kernel_rfl) (by kernel_rfl) (by kernel_rfl) (fun _ _ _ h => h) (Or.inl ⟨by rfl, ?_⟩) (by assumption) ?_
            rotate_left
            · intro w hSw
              (try dsimp only at hSw)
              go_simp <;> with_reducible rfl
            try simp only [Act.put, List.getElem_toArray, List.getElem_cons_succ, List.getElem_cons_zero, List.setIfInBounds_toArray, List.set_cons_zero, List.set_cons_succ]
            refine wpAnyH_take (i := 2) (v := ?_) rfl (by kernel_rfl) (by kernel_rfl) (by kernel_rfl) (fun _ _ _ h => h) (Or.inl ⟨by rfl, ?_⟩) (by assumption) ?_
            rotate_left
            · intro w hSw
              (try dsimp only at hSw)
              go_simp <;> with_reducible rfl
            try simp only [Act.put, List.getElem_toArray, List.getElem_cons_succ, List.getElem_cons_zero, List.setIfInBounds_toArray, List.set_cons_zero, List.set_cons_succ]
            refine wpAnyH_take (i := 3) (v := ?_) rfl (by kernel_rfl) (by kernel_rfl) (by kernel_rfl) (fun _ _ _ h => h) (Or.inl ⟨by rfl, ?_⟩) (by assumption) ?_
            rotate_left
            · intro w hSw
              (try dsimp only at hSw)
              go_simp <;> with_reducible rfl
            try simp only [Act.put, List.getElem_toArray, List.getElem_cons_succ, List.getElem_cons_zero, List.setIfInBounds_toArray, List.set_cons_zero, List.set_cons_succ]
            refine wpAnyH_take (i := 4) (v := ?_) rfl (by kernel_rfl) (by kernel_rfl) (by kernel_rfl) (fun _ _ _ h => h) (Or.inl ⟨by rfl, ?_⟩) (by assumption) ?_
            rotate_left
            · intro w hSw
              (try dsimp only at hSw)
              go_simp <;> with_reducible rfl
            try simp only [Act.put, List.getElem_toArray, List.getElem_cons_succ, List.getElem_cons_zero, List.setIfInBounds_toArray, List.set_cons_zero, List.set_cons_succ]
            refine wpAnyH_ready (rs := [1, 5]) (by kernel_rfl) (by simp) ?_
            refine AllReadyH.cons rfl (fun K hK => ?_) (AllReadyH.cons rfl (fun K hK => ?_) AllReadyH.nil)
            focus
              go_simp
              refine hK.out _ _ ?_ (fun hHeld' => ?_)
              · (try dsimp only)
                (first | exact hq1 | exact hs2 | exact hs3 | exact hs4 | exact hs5)
              clear hK K hHeld
              have hHeld := hHeld'
              clear hHeld'
              refine wpAnyH_ready (rs := [5]) (by kernel_rfl) (by simp) ?_
              refine AllReadyH.cons rfl (fun K hK => ?_) AllReadyH.nil
              go_simp
              (try go_wp2_with fail)
              refine HCALL.out.mono ?_
              rintro e w2 ⟨h1, v, rfl, h2, h3⟩
              obtain ⟨A6, c6, rfl⟩ := h2.form
              have hd2 := HD.out.chg h1 h3
              have hs2 := hd2.ptr
              have ht2 := hd2.bx.cell 2
              have hsz2 : wr.heap.size ≤ w2.heap.size := h1.size
              have HOWN2 := Lib.hid (own_chg (show wr.drew.ownsRow W2.heap.size 144 1 (.slice A5 k c5) k xs from HOWN.out) h1 (fun j hj hm => by have := (HOWN.out.lt j hj).1; simp at hm; omega))
              have HH1 := Lib.hid h1; have HD2 := Lib.hid hd2; have HSL := Lib.hid h2
              have hd3 := hd2.alloc (.cells #[.slice A6 x.length c6] 144)
              have hs3 := hd3.ptr
              have ht3 := hd3.bx.cell 2
              simp only [List.getElem?_toArray, List.getElem?_cons_zero, List.getElem?_cons_succ] at ht2 ht3
              have HD3 := Lib.hid hd3
              have HRN := Lib.hid (reads_newk w2 144 [.slice A6 x.length c6] 1 1 rfl)
              clear h1 h2 h3 hd2 hd3
              (try go_simp)
              refine hK.out _ _ ?_ (fun hHeld' => ?_)
              · (try dsimp only)
                (first | exact hq1 | exact hs2 | exact hs3 | exact hs4 | exact hs5)
              clear hK K hHeld
              have hHeld := hHeld'
              clear hHeld'
              refine wpAnyH_ready (rs := [6]) (by kernel_rfl) (by simp) ?_
              refine AllReadyH.cons rfl (fun K hK => ?_) AllReadyH.nil
              go_simp
              refine hK.out _ _ ?_ (fun hHeld' => ?_)
              · (try dsimp only)
                (first | exact hq1 | exact hs2 | exact hs3 | exact hs4 | exact hs5)
              clear hK K hHeld
              have hHeld := hHeld'
              clear hHeld'
            rotate_left
            focus
              go_simp
              (try go_wp2_with fail)
              refine HCALL.out.mono ?_
              rintro e w2 ⟨h1, v, rfl, h2, h3⟩
              obtain ⟨A6, c6, rfl⟩ := h2.form
              have hd2 := HD.out.chg h1 h3
              have hs2 := hd2.ptr
              have ht2 := hd2.bx.cell 2
              have hsz2 : wr.heap.size ≤ w2.heap.size := h1.size
              have HOWN2 := Lib.hid (own_chg (show wr.drew.ownsRow W2.heap.size 144 1 (.slice A5 k c5) k xs from HOWN.out) h1 (fun j hj hm => by have := (HOWN.out.lt j hj).1; simp at hm; omega))
              have HH1 := Lib.hid h1; have HD2 := Lib.hid hd2; have HSL := Lib.hid h2
              have hd3 := hd2.alloc (.cells #[.slice A6 x.length c6] 144)
              have hs3 := hd3.ptr
              have ht3 := hd3.bx.cell 2
              simp only [List.getElem?_toArray, List.getElem?_cons_zero, List.getElem?_cons_succ] at ht2 ht3
              have HD3 := Lib.hid hd3
              have HRN := Lib.hid (reads_newk w2 144 [.slice A6 x.length c6] 1 1 rfl)
              clear h1 h2 h3 hd2 hd3
              (try go_simp)
              refine hK.out _ _ ?_ (fun hHeld' => ?_)
              · (try dsimp only)
                (first | exact hq1 | exact hs2 | exact hs3 | exact hs4 | exact hs5)
              clear hK K hHeld
              have hHeld := hHeld'
              clear hHeld'
              refine wpAnyH_ready (rs := [1, 6]) (by kernel_rfl) (by simp) ?_
              refine AllReadyH.cons rfl (fun K hK => ?_) (AllReadyH.cons rfl (fun K hK => ?_) AllReadyH.nil)
              rotate_left
              focus
                go_simp
                refine hK.out _ _ ?_ (fun hHeld' => ?_)
                · (try dsimp only)
                  (first | exact hq1 | exact hs2 | exact hs3 | exact hs4 | exact hs5)
                clear hK K hHeld
                have hHeld := hHeld'
                clear hHeld'
                refine wpAnyH_ready (rs := [1]) (by kernel_rfl) (by simp) ?_
                refine AllReadyH.cons rfl (fun K hK => ?_) AllReadyH.nil
                go_simp
                refine hK.out _ _ ?_ (fun hHeld' => ?_)
                · (try dsimp only)
                  (first | exact hq1 | exact hs2 | exact hs3 | exact hs4 | exact hs5)
                clear hK K hHeld
                have hHeld := hHeld'
                clear hHeld'
              rotate_left
              focus
                go_simp
                refine hK.out _ _ ?_ (fun hHeld' => ?_)
                · (try dsimp only)
                  (first | exact hq1 | exact hs2 | exact hs3 | exact hs4 | exact hs5)
                clear hK K hHeld
                have hHeld := hHeld'
                clear hHeld'
                refine wpAnyH_ready (rs := [6]) (by kernel_rfl) (by simp) ?_
                refine AllReadyH.cons rfl (fun K hK => ?_) AllReadyH.nil
                go_simp
                refine hK.out _ _ ?_ (fun hHeld' => ?_)
                · (try dsimp only)
                  (first | exact hq1 | exact hs2 | exact hs3 | exact hs4 | exact hs5)
                clear hK K hHeld
                have hHeld := hHeld'
                clear hHeld'
            all_goals
              refine wpAnyH_ready (rs := [7]) (by kernel_rfl) (by simp) ?_
              refine AllReadyH.cons rfl (fun K hK => ?_) AllReadyH.nil
              refine step_append_any _ (by rfl) (.tmp 19) (.tmp 24) 27 (by rfl) W2.heap.size 144 i0 (.slice none 0 0) 1 24 Tryz.underlying27 hi hz0 hz1 hz2 (by rfl) (by decide) (.slice A5 k c5) k xs (by simp [Act.eval, Act.put]) (HOWN2.out.alloc _) (w2.heap.size + 1) (some ⟨w2.heap.size, 0, none⟩) 1 1 [.slice A6 x.length c6] (by simp [Act.eval, Act.put]) HRN.out (by intro u hu; rw [List.mem_singleton.1 hu]; rfl) (by unfold maxLen; omega) (by omega) (by simp; omega) ?_
              intro v' w3 hown' hgrow hx'
              obtain ⟨A7, c7, rfl, hk7, hc7⟩ := ownsRow_form hown'
              have hd4 := HD3.out.grown hgrow (fun j hj => (HOWN2.out.lt j hj).1) (by omega)
              have hs4 := hd4.ptr
              have ht4 := hd4.bx.cell 2
              have hf4 := hd4.bx.frozen 2
              simp only [List.getElem?_toArray, List.getElem?_cons_zero, List.getElem?_cons_succ] at ht4
              have hd5 := hd4.set_ 2 (.slice A7 (k + 1) c7)
              simp only [List.setIfInBounds_toArray, List.set_cons_zero, List.set_cons_succ] at hd5
              have hs5 := hd5.ptr
              have HD4 := Lib.hid hd4; have HD5 := Lib.hid hd5; have HG := Lib.hid hgrow; have HX := Lib.hid hx'; have HOWN4 := Lib.hid hown'
              clear hd4 hd5 hgrow hx' hown' hk7 hc7
              refine hK.out _ _ ?_ (fun hHeld' => ?_)
              · (try dsimp only)
                (first | exact hq1 | exact hs2 | exact hs3 | exact hs4 | exact hs5)
              clear hK K hHeld
              have hHeld := hHeld'
              clear hHeld'
              refine wpAnyH_take (i := 8) (v := ?_) rfl (by kernel_rfl) (by kernel_rfl) (by kernel_rfl) (fun _ _ _ h => h) (Or.inl ⟨by rfl, ?_⟩) (by assumption) ?_
              rotate_left
              · intro w hSw
                (try dsimp only at hSw)
                go_simp <;> with_reducible rfl
              try simp only [Act.put, List.getElem_toArray, List.getElem_cons_succ, List.getElem_cons_zero, List.setIfInBounds_toArray, List.set_cons_zero, List.set_cons_succ]
              refine wpAnyH_ready (rs := [9]) (by kernel_rfl) (by simp) ?_
              refine AllReadyH.cons rfl (fun K hK => ?_) AllReadyH.nil
              go_simp
              refine hK.out _ _ ?_ (fun hHeld' => ?_)
              · (try dsimp only)
                (first | exact hq1 | exact hs2 | exact hs3 | exact hs4 | exact hs5)
              clear hK K hHeld
              have hHeld := hHeld'
              clear hHeld'
              refine wpAnyH_done (by kernel_rfl) ?_ _
              have hsz3 := HG.out.size
              simp only [World.size_alloc] at hsz3
              have hx' : (Value.slice A7 (k + 1) c7).ownBlock = (Value.slice A5 k c5).ownBlock ∨ (Value.slice A7 (k + 1) c7).ownBlock = some (w2.alloc (.cells #[.slice A6 x.length c6] 144)).heap.size := HX.out
              have hgrow : (w2.alloc (.cells #[.slice A6 x.length c6] 144)).grownBy w3 (Value.slice A5 k c5).ownBlock := HG.out
              have hcc : Chg [w.heap.size + 1 + 1] w3 (w3.setCell ⟨w.heap.size + 1 + 1, 2, none⟩ (.slice A7 (k + 1) c7)) := (Chg.refl _ _).setCell (.inl (by simp)) _
              have hcell3 : ∀ q : Addr, W2.heap.size ≤ q.block → q.block < w2.heap.size → some q.block ≠ (Value.slice A5 k c5).ownBlock → (w3.setCell ⟨w.heap.size + 1 + 1, 2, none⟩ (.slice A7 (k + 1) c7)).cell? q = w2.cell? q := fun q hq0 hq hne => by
                unfold World.cell?
                rw [hcc.block q.block (by omega) (by simp only [List.mem_singleton]; omega), hgrow.block q.block (by simp; omega) hne, Below.heap_alloc _ _ _ hq]
              have hnew : ∀ c, c < w2.heap.size → (Value.slice A5 k c5).ownBlock ≠ some c → (Value.slice A7 (k + 1) c7).ownBlock ≠ some c := fun c hc hne e => by
                rcases hx' with hx' | hx'
                · exact hne (by rw [← hx', e])
                · rw [e] at hx'
                  injection hx' with hx'
                  simp at hx'; omega
              have hsz5 : (w3.setCell ⟨w.heap.size + 1 + 1, 2, none⟩ (.slice A7 (k + 1) c7)).heap.size = w3.heap.size := by simp [World.setCell]
              have hold : RowsF OnF w2 (fun b => W2.heap.size ≤ b ∧ b < w2.heap.size ∧ (Value.slice A5 k c5).ownBlock ≠ some b) ol xs := HROWS.out.imp fun y cy hy => OnF.keep (fun c hc => ⟨hc.1, by have := hc.2.1; omega, hc.2.2⟩) (fun q hq => by
                have h1 := HH1.out.block q.block hq.2.1 (by simp only [List.mem_singleton]; have := hq.1; omega)
                unfold World.cell?
                rw [h1]; rfl) hy
              have hp1 : OnF w2 (fun b => W2.heap.size ≤ b ∧ b < w2.heap.size ∧ (Value.slice A5 k c5).ownBlock ≠ some b) x [.slice A6 x.length c6] := ⟨_, rfl, SlF.plain (fun c hc => ⟨by have h0 : wr.heap.size ≤ c := hc.1; omega, hc.2, fun e => by have := (HOWN.out.lt c e).2; have h0 : wr.heap.size ≤ c := hc.1; omega⟩) (fun _ _ => rfl) HSL.out⟩
              have hall : RowsF OnF (w3.setCell ⟨w.heap.size + 1 + 1, 2, none⟩ (.slice A7 (k + 1) c7)) (fun b => W2.heap.size ≤ b ∧ b < (w3.setCell ⟨w.heap.size + 1 + 1, 2, none⟩ (.slice A7 (k + 1) c7)).heap.size ∧ (Value.slice A7 (k + 1) c7).ownBlock ≠ some b) (ol ++ [x]) (xs ++ [.slice A6 x.length c6]) := (RowsF.append hp1 hold).imp fun y cy hy => OnF.keep (fun c hc => ⟨hc.1, by have := hc.2.1; omega, hnew c hc.2.1 hc.2.2⟩) (fun q hq => hcell3 q hq.1 hq.2.1 (fun e => hq.2.2 e.symm)) hy
              have hown5 : (w3.setCell ⟨w.heap.size + 1 + 1, 2, none⟩ (.slice A7 (k + 1) c7)).ownsRow W2.heap.size 144 1 (.slice A7 (k + 1) c7) (k + 1) (xs ++ [.slice A6 x.length c6]) := own_chg HOWN4.out hcc (fun j hj hm => by have := (HOWN4.out.lt j hj).1; simp at hm; omega)
              have hch5 : Chg [g, w.heap.size + 1 + 1] W2 (w3.setCell ⟨w.heap.size + 1 + 1, 2, none⟩ (.slice A7 (k + 1) c7)) := ((((HCH.out.drew.trans (HH1.out.mono (by simp))).alloc _).grown hgrow (fun j hj => (HOWN2.out.lt j hj).1)).trans (hcc.mono (by simp)))
              have hlen5 : (ol ++ [x]).length = k + 1 := by rw [List.length_append, HLL.out]; rfl
              have HALL := Lib.hid hall; have HOWN5 := Lib.hid hown5; have HCH5 := Lib.hid hch5; have HLEN5 := Lib.hid hlen5
              clear hgrow hx' hcell3 hnew hold hp1 hall hown5 hch5 hcc hlen5 hHeld hq1 hq2 hs2 ht2 hs3 ht3 hs4 ht4 hf4 hs5
              go_wp2
              go_roundw
              case rel => exact ⟨k + 1, ol ++ [x], _, _, b', by omega, by go_num, HLEN5.out, HOWN5.out, HALL.out, HP.out, HD5.out, HCH5.out⟩
              case measure => simp [Lib.intOf]; omega
        · obtain rfl : k = l1.length := by omega
          rw [Nat.sub_self] at hpre
          have e : o2 = some (ol, b) := by rw [← hpre]; simp [preO, manyR]
          have hoo := HOO.out
          rw [e] at hoo
          have hoo' : o = some ((⟨l1, l2, ol⟩ : Hs), b) := hoo
          have hs := HST.out
          have hcc : Chg [w.heap.size + 1] wr (((wr.setCell ⟨w.heap.size + 1, 0, none⟩ (.slice A0 l1.length c0)).setCell ⟨w.heap.size + 1, 1, none⟩ (.slice A1 l2.length c1)).setCell ⟨w.heap.size + 1, 2, none⟩ (.slice A5 l1.length c5)) :=
            (((Chg.refl _ _).setCell (.inl (by simp)) _).setCell (.inl (by simp)) _).setCell (.inl (by simp)) _
          have hsl0 := SlF.toNew (keep_plain _) ((SL0.out.later3 (keep_plain _) HCH.out (by intro i hi; simp at hi; omega)).later3 (keep_plain _) hcc (by simp))
          have hsl1 := SlF.toNew keep_law ((SL1.out.later3 keep_law HCH.out (by intro i hi; simp at hi; omega)).later3 keep_law hcc (by simp))
          have hown := HOWN.out
          rw [← HLL.out] at hown
          have hsl2 : SlF OnF 1 wr (New3 w wr) ol (.slice A5 ol.length c5) := slF_own hown (fun c hc => by have := HOWN.out.lt c (by rw [← HLL.out]; exact hc); exact ⟨by omega, this.2⟩) (HROWS.out.imp fun y cy hy => OnF.keep (fun c hc => ⟨by have := hc.1; omega, hc.2.1⟩) (fun _ _ => rfl) hy)
          rw [HLL.out] at hsl2
          have hsl3 := SlF.toNew keep_on (hsl2.later3 keep_on hcc (by simp))
          have hf := ((hs.setr 0 (.slice A0 l1.length c0)).setr 1 (.slice A1 l2.length c1)).setr 2 (.slice A5 l1.length c5)
          simp only [List.setIfInBounds_toArray, List.set_cons_zero, List.set_cons_succ] at hf
          have hfin : ElPost g HsF aggM w (some ((⟨l1, l2, ol⟩ : Hs), b)) (.returned (aggM [.slice A0 l1.length c0, .slice A1 l2.length c1, .slice A5 l1.length c5])) (((wr.setCell ⟨w.heap.size + 1, 0, none⟩ (.slice A0 l1.length c0)).setCell ⟨w.heap.size + 1, 1, none⟩ (.slice A1 l2.length c1)).setCell ⟨w.heap.size + 1, 2, none⟩ (.slice A5 l1.length c5)) :=
            ⟨hf.ch, _, rfl, ⟨_, _, _, rfl, hsl0, hsl1, hsl3⟩, hf.rd⟩
          have g0 := hs.bx.cell 0; have g1 := hs.bx.cell 1; have g2 := hs.bx.cell 2
          have z0 := hs.rs.cell 0; have z1 := hs.rs.cell 1; have z2 := hs.rs.cell 2
          have q0 := hs.rs.frozen 0; have q1 := hs.rs.frozen 1; have q2 := hs.rs.frozen 2
          have d0 := hf.rs.cell 0; have d1 := hf.rs.cell 1; have d2 := hf.rs.cell 2
          simp only [List.getElem?_toArray, List.getElem?_cons_zero, List.getElem?_cons_succ] at g0 g1 g2 z0 z1 z2 d0 d1 d2
          have HFIN := Lib.hid hfin; have D0 := Lib.hid d0; have D1 := Lib.hid d1; have D2 := Lib.hid d2; have HOO' := Lib.hid hoo'
          clear hpre e hoo hoo' hs hcc hsl0 hsl1 hown hsl2 hsl3 hf hfin d0 d1 d2
          go_wp2
          have hoo := HOO'.out
          subst hoo
          exact bodyPost_ret (by simp [results, Tryz.results114, go_sem, D0.out, D1.out, D2.out]) rfl HFIN.out

end Go.Proofs.YtmepaeahchiglaaGreatDoor
