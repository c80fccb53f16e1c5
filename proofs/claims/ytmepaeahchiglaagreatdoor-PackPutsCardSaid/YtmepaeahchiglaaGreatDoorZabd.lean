/-
  layer 42: the reference's Inventory, Notation and Check of a project. Conditions: what can be read.
-/
import Derived.Test.YtmepaeahchiglaaGreatDoorZabb
import Derived.Test.YtmepaeahchiglaaGreatDoorZaNtD6
import Derived.Test.YtmepaeahchiglaaGreatDoorZaNtD4
import Derived.Test.YtmepaeahchiglaaGreatDoorZaba
namespace Go.Proofs.YtmepaeahchiglaaGreatDoor
open Go.RowKit Go.Lib

def RInvPost (w : World) (p : Pj) (e : Ending) (w' : World) : Prop :=
  Below w.heap.size w w' ∧ ((invE p = 0 ∧ ∃ g, e = .returned (.tuple #[wptr g, .int .i64 0]) ∧ RInv w' (NewB4 w w') g p.feats p.sounds) ∨ (invE p ≠ 0 ∧ e = .returned (.tuple #[.pointer none, .int .i64 (invE p)])))
set_option linter.unusedSimpArgs false in
set_option maxRecDepth 20000 in
set_option maxHeartbeats 4000000 in
theorem rinventory_any (w : World) (B : Nat) (p : Pj) (cs : List Value) (hp : ProjC w B p cs) (hB : B ≤ w.heap.size) (hr : PjRd p) :
    Calls Tryz.prog 152 #[.agg cs.toArray] w (RInvPost w p) := by
  obtain ⟨v1, v2, v3, v4, v5, v6, v7, v8, rfl, q1, q2, q3, q4, q5, q6, q7, q8⟩ := hp
  obtain ⟨A3, m3, c3, rfl, -⟩ := q3.form
  obtain ⟨A4, m4, c4, rfl, -⟩ := q4.form
  obtain ⟨A5, m5, c5, rfl, -⟩ := q5.form
  obtain ⟨A6, m6, c6, rfl, -⟩ := q6.form
  obtain ⟨A7, m7, c7, rfl, -⟩ := q7.form
  obtain ⟨A8, m8, c8, rfl, -⟩ := q8.form
  obtain ⟨A1, c1, rfl, ⟨h11, h12⟩, r1⟩ := q1.flat
  obtain ⟨A2, c2, rfl, ⟨h21, h22⟩, r2⟩ := q2.flat
  rw [flatMap_one] at r1
  unfold maxLen at h12 h22
  obtain ⟨o, ho⟩ : ∃ o, Obj.cells #[.slice A1 p.feats.length c1, .slice A2 p.sounds.length c2, .slice A3 m3 c3, .slice A4 m4 c4, .slice A5 m5 c5, .slice A6 m6 c6, .slice A7 m7 c7, .slice A8 m8 c8] 33 = o := ⟨_, rfl⟩
  have hb0 := (Below.refl w.heap.size w).alloc (Nat.le_refl _) o
  have hk0 := Blk.new w 33 #[.slice A1 p.feats.length c1, .slice A2 p.sounds.length c2, .slice A3 m3 c3, .slice A4 m4 c4, .slice A5 m5 c5, .slice A6 m6 c6, .slice A7 m7 c7, .slice A8 m8 c8]
  rw [ho] at hk0
  have hnew := rnew_any A1 p.feats.length c1 B p.feats (w.alloc o) (Reads.below r1 (hb0.mono hB)) (by rw [World.size_alloc]; omega) h11 hr.o1
  have hsnd := fun (W : World) (hW : Below w.heap.size w W) => Reads.below r2 (hW.mono hB)
  have hle1 : w.heap.size ≤ (w.alloc o).heap.size := by rw [World.size_alloc]; omega
  have hlt1 : w.heap.size < (w.alloc o).heap.size := by rw [World.size_alloc]; omega
  have hie : invE p = if newE p.feats = 0 then addsE p.feats.length [] p.sounds else newE p.feats := rfl
  have HO := Lib.hid ho; have HB0 := Lib.hid hb0; have HK0 := Lib.hid hk0; have HNEW := Lib.hid hnew; have HSND := Lib.hid hsnd; have HR := Lib.hid hr; have HIE := Lib.hid hie
  have g0 := hk0.cell 0
  simp only [List.getElem?_toArray, List.getElem?_cons_zero, List.getElem?_cons_succ] at g0
  obtain ⟨n, hn⟩ : ∃ n, p.sounds.length = n := ⟨_, rfl⟩
  have hk0' := hk0
  rw [hn] at h21 hk0'
  have HK0 := Lib.hid hk0'
  rw [hn]
  rw [hn] at ho
  have HO := Lib.hid ho
  have HN := Lib.hid hn
  clear q1 q2 q3 q4 q5 q6 q7 q8 r1 r2 ho hb0 hk0 hk0' hnew hsnd hr hie hn
  go_enter Tryz.func152, Tryz.ntmps152
  go_wp2_with (rw [HO.out])
  refine HNEW.out.mono ?_
  rintro e w1 ⟨hb1, hcase⟩
  have HB1 := Lib.hid (HB0.out.trans (hb1.mono hle1)); have HK1 := Lib.hid (HK0.out.below hb1 hlt1)
  have hs1 : w.heap.size < w1.heap.size := Nat.lt_of_lt_of_le hlt1 hb1.size
  clear hb1 g0 HNEW
  rcases hcase with ⟨hz, gi, rfl, hm⟩ | ⟨hz, rfl⟩
  · have hie := HIE.out
    rw [if_pos hz] at hie
    have HIE2 := Lib.hid hie
    have HM := Lib.hid (hm.mono (T := fun b => w.heap.size < b ∧ b < w1.heap.size) fun b hb => ⟨Nat.lt_of_lt_of_le hlt1 hb.1, hb.2⟩)
    have g1 := HK1.out.cell 1
    simp only [List.getElem?_toArray, List.getElem?_cons_zero, List.getElem?_cons_succ] at g1
    clear hz hm hie
    go_wp2
    go_loopw [6] (fun i wr => ∃ k : Nat, k ≤ n ∧ i = .int .i64 k ∧ addsE p.feats.length [] p.sounds = addsE p.feats.length (p.sounds.take k) (p.sounds.drop k) ∧ RInv wr (fun b => w.heap.size < b ∧ b < wr.heap.size) gi p.feats (p.sounds.take k) ∧ Blk wr w.heap.size 33 #[.slice A1 p.feats.length c1, .slice A2 n c2, .slice A3 m3 c3, .slice A4 m4 c4, .slice A5 m5 c5, .slice A6 m6 c6, .slice A7 m7 c7, .slice A8 m8 c8] ∧ Below w.heap.size w wr) (fun i _ => n - (RowKit.intOf i).toNat)
    case atStart => exact ⟨0, by omega, rfl, by rw [List.take_zero, List.drop_zero], by rw [List.take_zero]; exact HM.out, HK1.out, HB1.out⟩
    case round =>
      obtain ⟨k, hk, rfl, hno, him, hbk, hb⟩ := hrel
      have HNO := Lib.hid hno; have HIM := Lib.hid him; have HBK := Lib.hid hbk; have HB := Lib.hid hb
      clear hno him hbk hb g1
      have g1 := HBK.out.cell 1
      simp only [List.getElem?_toArray, List.getElem?_cons_zero, List.getElem?_cons_succ] at g1
      by_cases hlt : k < n
      · have hkl : k < p.sounds.length := by have := HN.out; omega
        have hkI : (k : Int) < (n : Int) := by omega
        have hk0 : (0 : Int) ≤ (k : Int) := by omega
        obtain ⟨ad, rfl, had, e0, e1, e2⟩ := nam_cells (HSND.out wr HB.out) hkl
        obtain ⟨hst, hbad⟩ := addsE_next hkl HNO.out
        have hox := HR.out.o2 _ (List.getElem_mem hkl)
        have htk : p.sounds.take (k + 1) = p.sounds.take k ++ [p.sounds[k]] := List.take_succ_eq_append_getElem hkl
        obtain ⟨x, hxx⟩ : ∃ x, p.sounds[k] = x := ⟨_, rfl⟩
        rw [hxx] at e0 e1 e2 hst hbad hox htk
        obtain ⟨sy, sv, sa⟩ := x
        simp only [] at *
        have hadd := radd_any (w := wr.drew) sy (sv, sa) (show RInv wr.drew (fun b => w.heap.size < b ∧ b < wr.heap.size) gi p.feats (p.sounds.take k) from HIM.out) (fun b hb => hb.2) hox.2 hox.1
        obtain ⟨a, ha⟩ : ∃ a, addE p.feats.length (p.sounds.take k) sy (sv, sa) = a := ⟨_, rfl⟩
        unfold RAddPost addL at hadd
        simp only [] at hadd
        rw [ha] at hst hbad hadd
        have hbk := HBK.out
        have hS : ∀ W : World, Below w.heap.size w W → Blk W w.heap.size 33 #[.slice A1 p.feats.length c1, .slice (some ad) n c2, .slice A3 m3 c3, .slice A4 m4 c4, .slice A5 m5 c5, .slice A6 m6 c6, .slice A7 m7 c7, .slice A8 m8 c8] → W.cell? ⟨w.heap.size, 1, none⟩ = some (.slice (some ad) n c2) ∧ W.cell? (ad.add (k * 3)) = some (.string sy) ∧ W.cell? ⟨(ad.add (k * 3)).block, (ad.add (k * 3)).off + 1, none⟩ = some (.int .u32 sv) ∧ W.cell? ⟨(ad.add (k * 3)).block, (ad.add (k * 3)).off + 2, none⟩ = some (.int .u32 sa) := fun W hW hb => by
          have g1 := hb.cell 1
          simp only [List.getElem?_toArray, List.getElem?_cons_zero, List.getElem?_cons_succ] at g1
          obtain ⟨ad', e', -, d0, d1, d2⟩ := nam_cells (HSND.out W hW) hkl
          obtain rfl := Option.some.inj e'
          rw [hxx] at d0 d1 d2
          exact ⟨g1, d0, d1, d2⟩
        have hq := hS _ HB.out.drew hbk.drew
        have hszw : w.heap.size < wr.heap.size := hbk.lt
        have HADD := Lib.hid hadd; have HST := Lib.hid hst; have HBAD := Lib.hid hbad; have HTK := Lib.hid htk; have HSS := Lib.hid hS
        clear hadd hst hbad hox htk ha hS hbk e0 e1 e2 hxx
        go_wp2
        refine wp_region_held_drew (S := (fun W => W.cell? ⟨w.heap.size, 1, none⟩ = some (.slice (some ad) n c2) ∧ W.cell? (ad.add (k * 3)) = some (.string sy) ∧ W.cell? ⟨(ad.add (k * 3)).block, (ad.add (k * 3)).off + 1, none⟩ = some (.int .u32 sv) ∧ W.cell? ⟨(ad.add (k * 3)).block, (ad.add (k * 3)).off + 2, none⟩ = some (.int .u32 sa))) (by kernel_rfl) ?_ (fun hHeld => ?_)
        · (try dsimp only)
          (first | exact hq | exact hs2)
        refine wpAnyH_take (i := 0) (v := ?_) rfl (by kernel_rfl) (by kernel_rfl) (by kernel_rfl) (fun _ _ _ h => h) (Or.inl ⟨by rfl, ?_⟩) (by assumption) ?_
        rotate_left
        · intro w hSw
          (try dsimp only at hSw)
          go_simp <;> with_reducible rfl
        try simp only [Act.put, List.getElem_toArray, List.getElem_cons_succ, List.getElem_cons_zero, List.setIfInBounds_toArray, List.set_cons_zero, List.set_cons_succ]
        refine wpAnyH_take (i := 1) (v := ?_) rfl (by kernel_rfl) (by kernel_rfl) (by kernel_rfl) (fun _ _ _ h => h) (Or.inl ⟨by rfl, ?_⟩) (by assumption) ?_
        rotate_left
        · intro w hSw
          (try dsimp only at hSw)
          go_simp <;> with_reducible rfl
        try simp only [Act.put, List.getElem_toArray, List.getElem_cons_succ, List.getElem_cons_zero, List.setIfInBounds_toArray, List.set_cons_zero, List.set_cons_succ]
        refine wpAnyH_take (i := 2) (v := ?_) rfl (by kernel_rfl) (by kernel_rfl) (by kernel_rfl) (fun _ _ _ h => h) (Or.inl ⟨by rfl, ?_⟩) (by assumption) ?_
        rotate_left
        · intro w hSw
          (try dsimp only at hSw)
          go_simp <;> with_reducible rfl
        try simp only [Act.put, List.getElem_toArray, List.getElem_cons_succ, List.getElem_cons_zero, List.setIfInBounds_toArray, List.set_cons_zero, List.set_cons_succ]
        refine wpAnyH_take (i := 3) (v := ?_) rfl (by kernel_rfl) (by kernel_rfl) (by kernel_rfl) (fun _ _ _ h => h) (Or.inl ⟨by rfl, ?_⟩) (by assumption) ?_
        rotate_left
        · intro w hSw
          (try dsimp only at hSw)
          go_simp <;> with_reducible rfl
        try simp only [Act.put, List.getElem_toArray, List.getElem_cons_succ, List.getElem_cons_zero, List.setIfInBounds_toArray, List.set_cons_zero, List.set_cons_succ]
        refine wpAnyH_take (i := 4) (v := ?_) rfl (by kernel_rfl) (by kernel_rfl) (by kernel_rfl) (fun _ _ _ h => h) (Or.inl ⟨by rfl, ?_⟩) (by assumption) ?_
        rotate_left
        · intro w hSw
          (try dsimp only at hSw)
          go_simp <;> with_reducible rfl
        try simp only [Act.put, List.getElem_toArray, List.getElem_cons_succ, List.getElem_cons_zero, List.setIfInBounds_toArray, List.set_cons_zero, List.set_cons_succ]
        refine wpAnyH_take (i := 5) (v := ?_) rfl (by kernel_rfl) (by kernel_rfl) (by kernel_rfl) (fun _ _ _ h => h) (Or.inl ⟨by rfl, ?_⟩) (by assumption) ?_
        rotate_left
        · intro w hSw
          (try dsimp only at hSw)
          go_simp <;> with_reducible rfl
        try simp only [Act.put, List.getElem_toArray, List.getElem_cons_succ, List.getElem_cons_zero, List.setIfInBounds_toArray, List.set_cons_zero, List.set_cons_succ]
        refine wpAnyH_take (i := 6) (v := ?_) rfl (by kernel_rfl) (by kernel_rfl) (by kernel_rfl) (fun _ _ _ h => h) (Or.inl ⟨by rfl, ?_⟩) (by assumption) ?_
        rotate_left
        · intro w hSw
          (try dsimp only at hSw)
          go_simp <;> with_reducible rfl
        try simp only [Act.put, List.getElem_toArray, List.getElem_cons_succ, List.getElem_cons_zero, List.setIfInBounds_toArray, List.set_cons_zero, List.set_cons_succ]
        refine wpAnyH_take (i := 7) (v := ?_) rfl (by kernel_rfl) (by kernel_rfl) (by kernel_rfl) (fun _ _ _ h => h) (Or.inl ⟨by rfl, ?_⟩) (by assumption) ?_
        rotate_left
        · intro w hSw
          (try dsimp only at hSw)
          go_simp <;> with_reducible rfl
        try simp only [Act.put, List.getElem_toArray, List.getElem_cons_succ, List.getElem_cons_zero, List.setIfInBounds_toArray, List.set_cons_zero, List.set_cons_succ]
        refine wpAnyH_take (i := 8) (v := ?_) rfl (by kernel_rfl) (by kernel_rfl) (by kernel_rfl) (fun _ _ _ h => h) (Or.inl ⟨by rfl, ?_⟩) (by assumption) ?_
        rotate_left
        · intro w hSw
          (try dsimp only at hSw)
          go_simp <;> with_reducible rfl
        try simp only [Act.put, List.getElem_toArray, List.getElem_cons_succ, List.getElem_cons_zero, List.setIfInBounds_toArray, List.set_cons_zero, List.set_cons_succ]
        refine wpAnyH_take (i := 9) (v := ?_) rfl (by kernel_rfl) (by kernel_rfl) (by kernel_rfl) (fun _ _ _ h => h) (Or.inl ⟨by rfl, ?_⟩) (by assumption) ?_
        rotate_left
        · intro w hSw
          (try dsimp only at hSw)
          go_simp <;> with_reducible rfl
        try simp only [Act.put, List.getElem_toArray, List.getElem_cons_succ, List.getElem_cons_zero, List.setIfInBounds_toArray, List.set_cons_zero, List.set_cons_succ]
        refine wpAnyH_take (i := 10) (v := ?_) rfl (by kernel_rfl) (by kernel_rfl) (by kernel_rfl) (fun _ _ _ h => h) (Or.inl ⟨by rfl, ?_⟩) (by assumption) ?_
        rotate_left
        · intro w hSw
          (try dsimp only at hSw)
          go_simp <;> with_reducible rfl
        try simp only [Act.put, List.getElem_toArray, List.getElem_cons_succ, List.getElem_cons_zero, List.setIfInBounds_toArray, List.set_cons_zero, List.set_cons_succ]
        refine wpAnyH_take (i := 11) (v := ?_) rfl (by kernel_rfl) (by kernel_rfl) (by kernel_rfl) (fun _ _ _ h => h) (Or.inl ⟨by rfl, ?_⟩) (by assumption) ?_
        rotate_left
        · intro w hSw
          (try dsimp only at hSw)
          go_simp <;> with_reducible rfl
        try simp only [Act.put, List.getElem_toArray, List.getElem_cons_succ, List.getElem_cons_zero, List.setIfInBounds_toArray, List.set_cons_zero, List.set_cons_succ]
        refine wpAnyH_take (i := 12) (v := ?_) rfl (by kernel_rfl) (by kernel_rfl) (by kernel_rfl) (fun _ _ _ h => h) (Or.inl ⟨by rfl, ?_⟩) (by assumption) ?_
        rotate_left
        · intro w hSw
          (try dsimp only at hSw)
          go_simp <;> with_reducible rfl
        try simp only [Act.put, List.getElem_toArray, List.getElem_cons_succ, List.getElem_cons_zero, List.setIfInBounds_toArray, List.set_cons_zero, List.set_cons_succ]
        refine wpAnyH_ready (rs := [13]) (by kernel_rfl) (by simp) ?_
        refine AllReadyH.cons rfl (fun K hK => ?_) AllReadyH.nil
        go_simp
        (try go_wp2_with fail)
        refine HADD.out.mono ?_
        rintro e w2 ⟨rfl, him2, hch⟩
        have hb2 : Below w.heap.size w w2 := HB.out.drew.trans (hch.below (B := w.heap.size) (fun i hi => Nat.le_of_lt hi.1) HB.out.size)
        have hbk2 := HBK.out.drew.chgS hch (fun h => absurd h.1 (Nat.lt_irrefl _))
        have HB2 := Lib.hid hb2
        have hs2 := HSS.out w2 hb2 hbk2
        have HK2 := Lib.hid hbk2
        have hsz2 := hch.size
        have HIM2 := Lib.hid (him2.mono (T := fun b => w.heap.size < b ∧ b < w2.heap.size) fun b hb => by have h1 : wr.heap.size ≤ w2.heap.size := hsz2; have h3 := HB.out.size; exact hb.elim (fun hb => ⟨hb.1, by omega⟩) (fun hb => ⟨Nat.lt_of_lt_of_le hszw hb.1, hb.2⟩))
        clear him2 hch hb2 hbk2 hsz2
        (try go_simp)
        refine hK.out _ _ ?_ (fun hHeld' => ?_)
        · (try dsimp only)
          (first | exact hq | exact hs2)
        clear hK K hHeld
        have hHeld := hHeld'
        clear hHeld'
        refine wpAnyH_take (i := 14) (v := ?_) rfl (by kernel_rfl) (by kernel_rfl) (by kernel_rfl) (fun _ _ _ h => h) (Or.inl ⟨by rfl, ?_⟩) (by assumption) ?_
        rotate_left
        · intro w hSw
          (try dsimp only at hSw)
          go_simp <;> with_reducible rfl
        try simp only [Act.put, List.getElem_toArray, List.getElem_cons_succ, List.getElem_cons_zero, List.setIfInBounds_toArray, List.set_cons_zero, List.set_cons_succ]
        refine wpAnyH_done (by kernel_rfl) ?_ _
        by_cases hz : a = 0
        · have hzI : (a != (0 : Int)) = false := by rw [hz]; rfl
          have him := HIM2.out
          rw [if_pos hz, ← HTK.out] at him
          have HIM3 := Lib.hid him
          have HST2 := Lib.hid (HST.out hz)
          clear hz him
          go_wp2
          go_roundw
          case rel => exact ⟨k + 1, by omega, by go_num, HST2.out, HIM3.out, HK2.out, HB2.out⟩
          case measure => simp [RowKit.intOf]; omega
        · have hzI : (a != (0 : Int)) = true := by rw [bne_iff_ne]; exact hz
          have hie := HIE2.out.trans (HBAD.out hz)
          have hfin : RInvPost w p (.returned (.tuple #[.pointer none, .int .i64 a])) w2 := ⟨HB2.out, .inr ⟨by rw [hie]; exact hz, by rw [hie]⟩⟩
          have HF := Lib.hid hfin
          clear hz hie hfin
          go_wp2
          go_ret2
          exact HF.out
      · obtain rfl : k = n := by omega
        have hno := HNO.out
        have him := HIM.out
        rw [List.drop_of_length_le (by have := HN.out; omega)] at hno
        rw [List.take_of_length_le (by have := HN.out; omega)] at him
        have hie : invE p = 0 := HIE2.out.trans hno
        have hfin : RInvPost w p (.returned (.tuple #[wptr gi, .int .i64 0])) wr := ⟨HB.out, .inl ⟨hie, gi, rfl, him.mono fun b hb => ⟨Nat.le_of_lt hb.1, hb.2⟩⟩⟩
        have HF := Lib.hid hfin
        clear hno him hie hfin
        go_wp2
        go_ret2
        exact HF.out
  · have hie := HIE.out
    rw [if_neg hz] at hie
    have hzI : (newE p.feats != (0 : Int)) = true := by rw [bne_iff_ne]; exact hz
    have hfin : RInvPost w p (.returned (.tuple #[.pointer none, .int .i64 (newE p.feats)])) w1 := ⟨HB1.out, .inr ⟨by rw [hie]; exact hz, by rw [hie]⟩⟩
    have HF := Lib.hid hfin
    clear hz hie hfin
    go_wp2
    go_ret2
    exact HF.out
set_option linter.unusedSimpArgs false in
set_option maxRecDepth 20000 in
set_option maxHeartbeats 4000000 in
theorem rnotation_any (w : World) (B : Nat) (p : Pj) (cs : List Value) (hp : ProjC w B p cs) (hB : B ≤ w.heap.size) (hr : PjRd p) :
    Calls Tryz.prog 100 #[.agg cs.toArray] w fun e w' => (∃ a, e = .returned (.tuple #[a, .int .i64 (toolsE p)])) ∧ Below w.heap.size w w' := by
  obtain ⟨v1, v2, v3, v4, v5, v6, v7, v8, rfl, q1, q2, q3, q4, q5, q6, q7, q8⟩ := hp
  have hp : ProjC w B p [v1, v2, v3, v4, v5, v6, v7, v8] := ⟨_, _, _, _, _, _, _, _, rfl, q1, q2, q3, q4, q5, q6, q7, q8⟩
  obtain ⟨A1, m1, c1, rfl, -⟩ := q1.form
  obtain ⟨A2, m2, c2, rfl, -⟩ := q2.form
  obtain ⟨A4, m4, c4, rfl, -⟩ := q4.form
  obtain ⟨A5, m5, c5, rfl, -⟩ := q5.form
  obtain ⟨A6, m6, c6, rfl, -⟩ := q6.form
  obtain ⟨A7, m7, c7, rfl, -⟩ := q7.form
  obtain ⟨A8, m8, c8, rfl, -⟩ := q8.form
  obtain ⟨A3, c3, rfl, ⟨h31, h32⟩, r3⟩ := q3.flat
  obtain ⟨n, hn⟩ : ∃ n, p.marks.length = n := ⟨_, rfl⟩
  rw [hn] at h31 hp r3 ⊢
  obtain ⟨o, ho⟩ : ∃ o, Obj.cells #[.slice A1 m1 c1, .slice A2 m2 c2, .slice A3 n c3, .slice A4 m4 c4, .slice A5 m5 c5, .slice A6 m6 c6, .slice A7 m7 c7, .slice A8 m8 c8] 33 = o := ⟨_, rfl⟩
  have hb0 := (Below.refl w.heap.size w).alloc (Nat.le_refl _) o
  have hk0 := Blk.new w 33 #[.slice A1 m1 c1, .slice A2 m2 c2, .slice A3 n c3, .slice A4 m4 c4, .slice A5 m5 c5, .slice A6 m6 c6, .slice A7 m7 c7, .slice A8 m8 c8]
  rw [ho] at hk0
  have hle1 : w.heap.size ≤ (w.alloc o).heap.size := by rw [World.size_alloc]; omega
  have hlt1 : w.heap.size < (w.alloc o).heap.size := by rw [World.size_alloc]; omega
  have hkp : ∀ q : Addr, q.block < B → (w.alloc o).cell? q = w.cell? q := fun q hq => hb0.cell (Nat.lt_of_lt_of_le hq hB)
  have hinv := rinventory_any (w.alloc o) B p _ (ProjC.keep hkp hp) (Nat.le_trans hB hle1) hr
  have hmk := fun (W : World) (hW : Below w.heap.size w W) => Reads.below r3 (hW.mono hB)
  have hle := fun (W : World) (hW : Below w.heap.size w W) => Nat.le_trans hB hW.size
  have hte := toolsE_eq p
  obtain ⟨r, hr'⟩ : ∃ r, toolsE p = r := ⟨_, rfl⟩
  rw [hr'] at hte ⊢
  have g0 := hk0.cell 0
  have g1 := hk0.cell 1
  have g2 := hk0.cell 2
  have g3 := hk0.cell 3
  have g4 := hk0.cell 4
  have g5 := hk0.cell 5
  have g6 := hk0.cell 6
  have g7 := hk0.cell 7
  simp only [List.getElem?_toArray, List.getElem?_cons_zero, List.getElem?_cons_succ] at g0 g1 g2 g3 g4 g5 g6 g7
  have HO := Lib.hid ho; have HB0 := Lib.hid hb0; have HK0 := Lib.hid hk0; have HINV := Lib.hid hinv; have HMK := Lib.hid hmk; have HLE := Lib.hid hle; have HTE := Lib.hid hte; have HMO := Lib.hid hr.o3; have H31 := Lib.hid h31
  clear q1 q2 q3 q4 q5 q6 q7 q8 r3 ho hb0 hk0 hinv hmk hle hte hkp hn hp hr hr' h31
  go_enter Tryz.func100, Tryz.ntmps100
  go_wp2_with (rw [HO.out])
  refine HINV.out.mono ?_
  rintro e w1 ⟨hb1, hcase⟩
  have HB1 := Lib.hid (HB0.out.trans (hb1.mono hle1)); have HK1 := Lib.hid (HK0.out.below hb1 hlt1)
  clear hb1 g0 g1 g2 g3 g4 g5 g6 g7 HINV
  rcases hcase with ⟨hz, gi, rfl, hm⟩ | ⟨hz, rfl⟩
  · have hte := HTE.out
    rw [if_pos hz] at hte
    have HTE2 := Lib.hid hte
    have hnew := rnewN_any A3 n c3 B p.marks hm (HMK.out w1 HB1.out) (HLE.out w1 HB1.out) H31.out HMO.out
    have HNEW := Lib.hid hnew
    have g2 := HK1.out.cell 2
    simp only [List.getElem?_toArray, List.getElem?_cons_zero, List.getElem?_cons_succ] at g2
    clear hz hm hnew hte
    go_wp2_with fail
    refine HNEW.out.mono ?_
    rintro e w2 ⟨hb2, hcase⟩
    have HB2 := Lib.hid (HB1.out.trans (hb2.mono HB1.out.size))
    clear hb2 HNEW
    rcases hcase with ⟨hz, gn, rfl, hm⟩ | ⟨hz, rfl⟩
    · obtain rfl : r = 0 := HTE2.out.trans hz
      clear hz hm
      go_wp2
      go_ret2
      exact ⟨⟨_, rfl⟩, HB2.out⟩
    · obtain ⟨a, ha⟩ : ∃ a, notK p.feats.length p.marks = a := ⟨_, rfl⟩
      rw [ha] at hz ⊢
      obtain rfl : r = a := HTE2.out.trans ha
      have hzI : (r != (0 : Int)) = true := by rw [bne_iff_ne]; exact hz
      clear hz
      go_wp2
      go_ret2
      exact ⟨⟨_, rfl⟩, HB2.out⟩
  · obtain ⟨a, ha⟩ : ∃ a, invE p = a := ⟨_, rfl⟩
    have hte := HTE.out
    rw [ha] at hz hte ⊢
    rw [if_neg hz] at hte
    obtain rfl : r = a := hte
    have hzI : (r != (0 : Int)) = true := by rw [bne_iff_ne]; exact hz
    clear hz
    go_wp2
    go_ret2
    exact ⟨⟨_, rfl⟩, HB1.out⟩
set_option linter.unusedSimpArgs false in
set_option maxRecDepth 20000 in
set_option maxHeartbeats 4000000 in
theorem rcheck_any (w : World) (B : Nat) (p : Pj) (cs : List Value) (hp : ProjC w B p cs) (hB : B ≤ w.heap.size) (hr : PjRd p) :
    Calls Tryz.prog 38 #[.agg cs.toArray] w fun e w' => e = .returned (.int .i64 (projE p)) ∧ Below w.heap.size w w' := by
  obtain ⟨v1, v2, v3, v4, v5, v6, v7, v8, rfl, q1, q2, q3, q4, q5, q6, q7, q8⟩ := hp
  have hp : ProjC w B p [v1, v2, v3, v4, v5, v6, v7, v8] := ⟨_, _, _, _, _, _, _, _, rfl, q1, q2, q3, q4, q5, q6, q7, q8⟩
  obtain ⟨A1, m1, c1, rfl, -⟩ := q1.form
  obtain ⟨A2, m2, c2, rfl, -⟩ := q2.form
  obtain ⟨A3, m3, c3, rfl, -⟩ := q3.form
  obtain ⟨A4, m4, c4, rfl, -⟩ := q4.form
  obtain ⟨A5, m5, c5, rfl, -⟩ := q5.form
  obtain ⟨A6, m6, c6, rfl, -⟩ := q6.form
  obtain ⟨A7, m7, c7, rfl, -⟩ := q7.form
  obtain ⟨A8, m8, c8, rfl, -⟩ := q8.form
  obtain ⟨o, ho⟩ : ∃ o, Obj.cells #[.slice A1 m1 c1, .slice A2 m2 c2, .slice A3 m3 c3, .slice A4 m4 c4, .slice A5 m5 c5, .slice A6 m6 c6, .slice A7 m7 c7, .slice A8 m8 c8] 33 = o := ⟨_, rfl⟩
  have hb0 := (Below.refl w.heap.size w).alloc (Nat.le_refl _) o
  have hk0 := Blk.new w 33 #[.slice A1 m1 c1, .slice A2 m2 c2, .slice A3 m3 c3, .slice A4 m4 c4, .slice A5 m5 c5, .slice A6 m6 c6, .slice A7 m7 c7, .slice A8 m8 c8]
  rw [ho] at hk0
  have hle1 : w.heap.size ≤ (w.alloc o).heap.size := by rw [World.size_alloc]; omega
  have hlt1 : w.heap.size < (w.alloc o).heap.size := by rw [World.size_alloc]; omega
  have hkp := fun (W : World) (hW : Below w.heap.size w W) => fun (q : Addr) (hq : q.block < B) => hW.cell (p := q) (Nat.lt_of_lt_of_le hq hB)
  have hle := fun (W : World) (hW : Below w.heap.size w W) => Nat.le_trans hB hW.size
  have htl := rnotation_any (w.alloc o) B p _ (ProjC.keep (hkp _ hb0) hp) (Nat.le_trans hB hle1) hr
  have hat := fun (W : World) (hW : Below w.heap.size w W) => rattest_any _ _ _ _ _ B p.tree p.laws p.on p.protos p.entries W (SlC.plain (hkp W hW) q4 (fun _ _ h => h)) (SlC.plain (hkp W hW) q5 (fun _ _ h => h.keep (hkp W hW))) (SlC.plain (hkp W hW) q6 (fun _ _ h => OnC.keep (hkp W hW) h)) (SlC.plain (hkp W hW) q7 (fun _ _ h => FormC.keep (hkp W hW) h)) (SlC.plain (hkp W hW) q8 (fun _ _ h => EnC.keep (hkp W hW) h)) (hle W hW) hr.o4 hr.o5 hr.o6 (fun x hx => (hr.o8 x hx).1) hr.o7 (fun x hx => (hr.o8 x hx).2)
  obtain ⟨r, hre⟩ : ∃ r, projE p = r := ⟨_, rfl⟩
  rw [hre]
  unfold projE at hre
  have g0 := hk0.cell 0
  have g1 := hk0.cell 1
  have g2 := hk0.cell 2
  have g3 := hk0.cell 3
  have g4 := hk0.cell 4
  have g5 := hk0.cell 5
  have g6 := hk0.cell 6
  have g7 := hk0.cell 7
  simp only [List.getElem?_toArray, List.getElem?_cons_zero, List.getElem?_cons_succ] at g0 g1 g2 g3 g4 g5 g6 g7
  have HO := Lib.hid ho; have HB0 := Lib.hid hb0; have HK0 := Lib.hid hk0; have HTL := Lib.hid htl; have HAT := Lib.hid hat; have HRE := Lib.hid hre
  clear q1 q2 q3 q4 q5 q6 q7 q8 ho hb0 hk0 htl hat hre hkp hle hp hr
  go_enter Tryz.func38, Tryz.ntmps38
  go_wp2_with (rw [HO.out])
  refine HTL.out.mono ?_
  rintro e w1 ⟨⟨a, rfl⟩, hb1⟩
  have HB1 := Lib.hid (HB0.out.trans (hb1.mono hle1)); have HK1 := Lib.hid (HK0.out.below hb1 hlt1)
  clear hb1 g0 g1 g2 g3 g4 g5 g6 g7 HTL
  obtain ⟨x, hx⟩ : ∃ x, toolsE p = x := ⟨_, rfl⟩
  have hre := HRE.out
  rw [hx] at hre ⊢
  have HRE := Lib.hid hre
  clear hx hre
  by_cases hz : x = 0
  · have hzI : (x != (0 : Int)) = false := by rw [hz]; rfl
    have hre := HRE.out
    rw [if_pos hz] at hre
    have HAT2 := HAT.out w1 HB1.out
    rw [hre] at HAT2
    have HAT3 := Lib.hid HAT2
    have g3 := HK1.out.cell 3
    have g4 := HK1.out.cell 4
    have g5 := HK1.out.cell 5
    have g6 := HK1.out.cell 6
    have g7 := HK1.out.cell 7
    simp only [List.getElem?_toArray, List.getElem?_cons_zero, List.getElem?_cons_succ] at g3 g4 g5 g6 g7
    clear hz hre HAT2 HRE
    go_wp2_with fail
    refine HAT3.out.mono ?_
    rintro e w2 ⟨rfl, hb2⟩
    have HB2 := Lib.hid (HB1.out.trans (hb2.mono HB1.out.size))
    clear hb2
    go_wp2
    go_ret
    exact ⟨rfl, HB2.out⟩
  · have hzI : (x != (0 : Int)) = true := by rw [bne_iff_ne]; exact hz
    obtain rfl : r = x := by rw [← HRE.out, if_neg hz]
    clear hz
    go_wp2
    go_ret
    exact ⟨rfl, HB1.out⟩
end Go.Proofs.YtmepaeahchiglaaGreatDoor

namespace Go.Proofs.YtmepaeahchiglaaGreatDoor
open Go.RowKit Go.Lib

def RepOk (m : Nat) : Prop := ∀ (p : Pt) (k : Int) (s : Snd) (neg : Bool) (lo hi : Int) (A : Option Addr) (n' c : Nat) (w : World) (B : Nat), ptSize p ≤ m → ptSize p ≤ 1000 → PatC w B p (patL k s neg lo hi (.slice A n' c)) → B ≤ w.heap.size →
  Calls Tryz.prog 149 #[patV k s neg lo hi (.slice A n' c)] w fun e w' => ∃ r : Nat, r ≤ ptSize p ∧ e = .returned (.int .i64 r) ∧ Below w.heap.size w w'
set_option maxRecDepth 20000 in
set_option maxHeartbeats 4000000 in
theorem rep_step (m : Nat) (hm : RepOk m) : RepOk (m + 1) := by
  rintro ⟨k, s, neg, lo, hi, l⟩ k' s' neg' lo' hi' A n' c w B hnm h1000 hp hB
  rw [patC_mk] at hp
  obtain ⟨A', c', ys, he, h32, hc, hcm, hr, hps⟩ := hp
  simp only [patL, List.cons.injEq, Value.int.injEq, Value.bool.injEq, Value.slice.injEq, true_and, and_true] at he
  obtain ⟨rfl, h1, h2, rfl, rfl, rfl, rfl, rfl, rfl⟩ := he
  clear h1 h2
  rw [ptSize_mk] at hnm h1000 ⊢
  have hb0 := (Below.refl w.heap.size w).alloc (Nat.le_refl _) (.cells #[.int .i64 k', .int .u32 s'.1, .int .u32 s'.2, .bool neg', .int .i64 lo', .int .i64 hi', .slice A l.length c] 58)
  have hk0 := Blk.new w 58 #[.int .i64 k', .int .u32 s'.1, .int .u32 s'.2, .bool neg', .int .i64 lo', .int .i64 hi', .slice A l.length c]
  obtain ⟨W0, hW0⟩ : ∃ W, w.alloc (.cells #[.int .i64 k', .int .u32 s'.1, .int .u32 s'.2, .bool neg', .int .i64 lo', .int .i64 hi', .slice A l.length c] 58) = W := ⟨_, rfl⟩
  rw [hW0] at hb0 hk0
  have HW := Lib.hid hW0; have HB0 := Lib.hid hb0; have HK0 := Lib.hid hk0; have HR := Lib.hid hr; have HPS := Lib.hid hps; have HM := Lib.hid hm; have HBL := Lib.hid hB
  have g0 := hk0.cell 0
  simp only [List.getElem?_toArray, List.getElem?_cons_zero] at g0
  unfold maxLen at hcm
  clear hb0 hk0 hr hps hm hB hW0
  obtain ⟨b, hb⟩ : ∃ b, (k' == (5 : Int)) = b := ⟨_, rfl⟩
  go_enter Tryz.func149, Tryz.ntmps149
  cases b
  all_goals
    go_wp2_with (rw [HW.out])
    go_loopw [3, 4] (fun t i wr => ∃ (j r : Nat), j ≤ l.length ∧ i = .int .i64 j ∧ t = .int .i64 r ∧ r ≤ 1 + ptSizes (l.take j) ∧ Blk wr w.heap.size 58 #[.int .i64 k', .int .u32 s'.1, .int .u32 s'.2, .bool neg', .int .i64 lo', .int .i64 hi', .slice A l.length c] ∧ Below w.heap.size w wr) (fun _ i _ => l.length - (RowKit.intOf i).toNat)
    case atStart => first | exact ⟨0, 0, by omega, rfl, rfl, by omega, HK0.out, HB0.out⟩ | exact ⟨0, 1, by omega, rfl, rfl, by omega, HK0.out, HB0.out⟩
    case round =>
      obtain ⟨j, r, hj, rfl, rfl, hr, hbk, hbw⟩ := hrel
      have HBK := Lib.hid hbk; have HBW := Lib.hid hbw; have HRR := Lib.hid hr
      obtain ⟨V, hV⟩ : ∃ W, W = wr := ⟨_, rfl⟩
      subst hV
      have hle := ptSz_take_le (l := l) hj
      have hr1000 : r ≤ 1001 := by omega
      clear hbk hbw hr g0
      have g6 := HBK.out.cell 6
      simp only [List.getElem?_toArray, List.getElem?_cons_zero, List.getElem?_cons_succ] at g6
      by_cases hlt : j < l.length
      · have hjI : (j : Int) < (l.length : Int) := by omega
        have hj0 : (0 : Int) ≤ (j : Int) := by omega
        have hadd := ptSz_take hlt
        have hle2 := ptSz_take_le (l := l) (i := j + 1) hlt
        obtain ⟨ad, k1, s1, neg1, lo1, hi1, A1, n1, c1', rfl, had, hpc, e0, e1, e2, e3, e4, e5, e6⟩ := pat_cells (HR.out.below (HBW.out.mono HBL.out)) (HPS.out.below (HBW.out.mono HBL.out)) rfl (i := j) hlt
        have hcall := HM.out l[j] k1 s1 neg1 lo1 hi1 A1 n1 c1' V B (by omega) (by omega) hpc (Nat.le_trans HBL.out HBW.out.size)
        have hpl : ptSize l[j] ≤ 1000 := by omega
        have HCALL := Lib.hid hcall; have HADD := Lib.hid hadd; have HLE2 := Lib.hid hle2
        clear hcall hadd hpc hle2 hle
        go_wp2_with fail
        refine HCALL.out.mono ?_
        rintro e w1 ⟨r1, hr1, rfl, hb1⟩
        have HB1 := Lib.hid (HBW.out.trans (hb1.mono HBW.out.size)); have HK1 := Lib.hid (HBK.out.below hb1 HBK.out.lt)
        clear hb1
        go_wp2
        go_roundw
        case rel => exact ⟨j + 1, r + r1, by omega, by go_num, by go_num, by have := HADD.out; have := HRR.out; omega, HK1.out, HB1.out⟩
        case measure => simp [RowKit.intOf]; omega
      · obtain rfl : j = l.length := by omega
        have hrr := HRR.out
        rw [List.take_length] at hrr
        have HRR2 := Lib.hid hrr
        clear hrr hlt
        go_wp2
        go_ret
        exact ⟨r, HRR2.out, rfl, HBW.out⟩
theorem repeats_any (p : Pt) (k : Int) (s : Snd) (neg : Bool) (lo hi : Int) (A : Option Addr) (n' c : Nat) (w : World) (B : Nat) (h1000 : ptSize p ≤ 1000) (hp : PatC w B p (patL k s neg lo hi (.slice A n' c))) (hB : B ≤ w.heap.size) :
    Calls Tryz.prog 149 #[patV k s neg lo hi (.slice A n' c)] w fun e w' => ∃ r : Nat, r ≤ ptSize p ∧ e = .returned (.int .i64 r) ∧ Below w.heap.size w w' := by
  have h : ∀ m, RepOk m := by
    intro m
    induction m with
    | zero => intro p k s neg lo hi A n' c w B h0 h1 hp hB; have := ptSize_pos p; omega
    | succ m ih => exact rep_step m ih
  exact h _ p k s neg lo hi A n' c w B (Nat.le_refl _) h1000 hp hB
end Go.Proofs.YtmepaeahchiglaaGreatDoor
