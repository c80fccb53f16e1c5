/-
  Layer 40: the reference's check. Conditions: an article that is read, its texts of the reach.
-/
import Derived.Test.YtgkpoopiamicnaaGreatDoorDtRh
namespace Go.Proofs.YtgkpoopiamicnaaGreatDoor
open Go.RowKit Go.Lib

theorem not_nodup_at {l : List ByteArray} {j k : Nat} (hjk : j < k) (hk : k < l.length) (e : l[j]'(by omega) = l[k]) : twiceB l = true := by
  rw [← Bool.not_eq_false, twiceB_iff]
  intro hn
  exact List.pairwise_iff_getElem.1 hn j k (by omega) hk hjk e
theorem nodup_of {l : List ByteArray} (h : ∀ j k (hjk : j < k) (hk : k < l.length), l[j]'(by omega) ≠ l[k]) : twiceB l = false := by
  rw [twiceB_iff]
  exact List.pairwise_iff_getElem.2 fun i j _ hj hij => h i j hij hj
section
variable {w w' : World} {B a g : Nat} {lv : Value} {gs : Grps} {S : Nat → Prop} {L : List Art}
set_option linter.unusedSimpArgs false in
set_option maxRecDepth 20000 in
set_option maxHeartbeats 8000000 in
theorem rcheck_any (h : RDct w B a g lv gs S L) (x : Art) (cs : List Value) (T : Nat → Prop) (hx : ArtF w T x cs) (hT : ∀ b, T b → b < w.heap.size) (hok : ArtOk x) (hlL : L.length ≤ 1048576) :
    Calls Tryz.prog 58 #[wptr g, aggM cs] w fun e w' => e = .returned (.int .i64 (artE gs L x)) ∧ Below w.heap.size w w' := by
  obtain ⟨A1, c1, A2, c2, A3, c3, rfl, r1, r2, r3, q1, q2, q3⟩ := hx.reads hT
  obtain ⟨hd, l1, l2, l3⟩ := x
  obtain ⟨o1, o2, o3, o4⟩ := hok
  dsimp only [aggM] at *
  obtain ⟨r, hr⟩ : ∃ r, artE gs L ⟨hd, l1, l2, l3⟩ = r := ⟨_, rfl⟩
  rw [hr]
  unfold artE at hr
  dsimp only at hr
  have hbx := Blk.new w 42 #[.string hd, .slice A1 l1.length c1, .slice A2 l2.length c2, .slice A3 l3.length c3]
  have hb0 : Below w.heap.size w (w.alloc (.cells #[.string hd, .slice A1 l1.length c1, .slice A2 l2.length c2, .slice A3 l3.length c3] 42)) := (Below.refl _ _).alloc (Nat.le_refl _) _
  obtain ⟨W0, hW0⟩ : ∃ W, w.alloc (.cells #[.string hd, .slice A1 l1.length c1, .slice A2 l2.length c2, .slice A3 l3.length c3] 42) = W := ⟨_, rfl⟩
  rw [hW0] at hbx hb0
  obtain ⟨b, hbw⟩ : ∃ b, w.heap.size = b := ⟨_, rfl⟩
  have hcs : ∀ W, Below W0.heap.size W0 W → (W.cell? ⟨g, 0, none⟩ = some (.bool true) ∧ W.cell? ⟨g, 1, none⟩ = some (.pointer (some ⟨a, 0, none⟩)) ∧ W.cell? ⟨g, 2, none⟩ = some lv) ∧ (W.cell? ⟨b, 0, none⟩ = some (.string hd) ∧ W.cell? ⟨b, 1, none⟩ = some (.slice A1 l1.length c1) ∧ W.cell? ⟨b, 2, none⟩ = some (.slice A2 l2.length c2) ∧ W.cell? ⟨b, 3, none⟩ = some (.slice A3 l3.length c3)) := fun W hW => by
    have y := hbx.below hW hbx.lt
    rw [hbw] at y
    exact ⟨(h.below (hb0.trans (hW.mono hb0.size))).cells, y.cell 0, y.cell 1, y.cell 2, y.cell 3⟩
  have hd_ : ∀ W, Below W0.heap.size W0 W → RDct W B a g lv gs S L := fun W hW => h.below (hb0.trans (hW.mono hb0.size))
  have hw1 := refWord_any A1 l1.length c1 w.heap.size l1 W0 (r1.below hb0) hb0.size (by omega) o2
  have hr2 : ∀ W, Below W0.heap.size W0 W → ReadS W w.heap.size A2 l2.length l2 := fun W hW => show ReadS _ _ _ _ _ from Reads.below r2 (hb0.trans (hW.mono hb0.size))
  have hr3 : ∀ W, Below W0.heap.size W0 W → ReadS W w.heap.size A3 l3.length l3 := fun W hW => show ReadS _ _ _ _ _ from Reads.below r3 (hb0.trans (hW.mono hb0.size))
  obtain ⟨Al, cl, rfl, hlc1, hlc2⟩ := h.list.form
  have HCS := Lib.hid hcs; have HD := Lib.hid hd_; have HR2 := Lib.hid hr2; have HR3 := Lib.hid hr3; have HRE := Lib.hid hr; have HB0 := Lib.hid hb0; have HO := Lib.hid o3; have HO4 := Lib.hid o4
  have m2 : l2.length ≤ 9223372036854775807 := by unfold maxLen at q2; omega
  have m3 : l3.length ≤ 9223372036854775807 := by unfold maxLen at q3; omega
  have mL : L.length ≤ 9223372036854775807 := by omega
  have hcs0 := hcs W0 (Below.refl _ _)
  obtain ⟨⟨z0, z1, z2⟩, y0, y1, y2, y3⟩ := hcs0
  clear h hx hT r1 r2 r3 q1 q2 q3 o2 o3 o4 hbx hb0 hcs hd_ hr2 hr3 hr hlc1 hlc2 hlL
  go_enter Tryz.func58, Tryz.ntmps58
  go_upto_region 1 with fail
  clear hW0
  go_wp2_with fail
  refine hw1.mono ?_
  rintro e W1 ⟨rfl, hb1⟩
  have HB1 := Lib.hid hb1
  clear hw1 hb1 z0 z1 z2 y0 y1 y2 y3
  by_cases hwe : wordE l1 = 0
  case neg =>
    have er : wordE l1 = r := by have e := HRE.out; rw [if_pos hwe] at e; exact e
    rw [er] at hwe ⊢
    have hweI : (r == 0) = false := beq_false_of_ne hwe
    clear hwe HRE er
    go_wp2
    go_ret
    exact ⟨rfl, HB0.out.trans (HB1.out.mono HB0.out.size)⟩
  case pos =>
  have HRE1 := Lib.hid ((if_neg (by simp [hwe])).symm.trans HRE.out)
  rw [hwe]
  clear hwe HRE
  obtain ⟨⟨z0, z1, z2⟩, y0, y1, y2, y3⟩ := HCS.out W1 HB1.out
  have hh := rhead_any (HD.out W1 HB1.out) hd o1
  obtain ⟨hbv, hhb⟩ : ∃ v, headB gs hd = v := ⟨_, rfl⟩
  rw [hhb] at hh
  have HHB := Lib.hid hhb
  clear hhb
  go_wp2_with fail
  refine hh.mono ?_
  rintro e W2 ⟨rfl, hb2⟩
  have HB2 := Lib.hid (HB1.out.trans (hb2.mono HB1.out.size))
  clear hh hb2 z0 z1 z2 y0 y1 y2 y3
  cases hbv with
  | false =>
    obtain rfl : (10 : Int) = r := by have e := HRE1.out; rw [if_pos HHB.out] at e; exact e
    go_wp2
    go_ret
    exact ⟨rfl, HB0.out.trans (HB2.out.mono HB0.out.size)⟩
  | true =>
  have HRE2 := Lib.hid ((if_neg (by rw [HHB.out]; decide)).symm.trans HRE1.out)
  clear HRE1
  obtain ⟨⟨z0, z1, z2⟩, y0, y1, y2, y3⟩ := HCS.out W2 HB2.out
  by_cases hm : 16 < l2.length ∨ 16 < l3.length
  · obtain rfl : (12 : Int) = r := by have e := HRE2.out; rw [if_pos hm] at e; exact e
    have hmI : (16 : Int) < (l2.length : Int) ∨ (¬ (16 : Int) < (l2.length : Int) ∧ (16 : Int) < (l3.length : Int)) := by omega
    clear HRE2 hm
    rcases hmI with hmI | ⟨hmI, hmJ⟩ <;>
    · go_wp2
      go_ret
      exact ⟨rfl, HB0.out.trans (HB2.out.mono HB0.out.size)⟩
  have HRE3 := Lib.hid ((if_neg hm).symm.trans HRE2.out)
  have hm1 : ¬ (16 : Int) < (l2.length : Int) := by omega
  have hm2 : ¬ (16 : Int) < (l3.length : Int) := by omega
  clear HRE2 hm
  go_wp2
  clear z0 z1 z2 y0 y1 y2 y3 hm1 hm2
  go_loopw [6] (fun i wr => ∃ k : Nat, k ≤ l2.length ∧ i = .int .i64 k ∧ (l2.take k).all lineB = true ∧ W2 = wr) (fun i _ => l2.length - (RowKit.intOf i).toNat)
  case atStart => exact ⟨0, by omega, rfl, by simp, rfl⟩
  case round =>
    obtain ⟨k, hk, rfl, hall, rfl⟩ := hrel
    have HALL := Lib.hid hall
    clear hall
    obtain ⟨-, y0, y1, y2, y3⟩ := HCS.out W2 HB2.out
    by_cases hlt : k < l2.length
    · have hkI : (k : Int) < (l2.length : Int) := by omega
      obtain ⟨ad, rfl, had, hc⟩ := (HR2.out W2 HB2.out).at_ (k := k) hlt
      have hln := rline_any l2[k] W2 (HO.out _ (List.getElem_mem hlt))
      have hst : (l2.take (k + 1)).all lineB = ((l2.take k).all lineB && lineB l2[k]) := by rw [List.take_succ_eq_append_getElem hlt, List.all_append]; simp
      have hmem := List.getElem_mem hlt
      cases hv : lineB l2[k] with
      | false =>
        have hna : l2.all lineB = false := by
          rw [List.all_eq_false]
          exact ⟨_, hmem, by rw [hv]; decide⟩
        obtain rfl : (2 : Int) = r := by have e := HRE3.out; rw [if_pos hna] at e; exact e
        rw [hv] at hln
        clear hv hst hmem hna
        generalize l2[k] = y at *
        go_wp2_with fail
        refine hln.mono ?_
        rintro e W3 ⟨rfl, rfl⟩
        go_wp2
        go_ret
        exact ⟨rfl, HB0.out.trans (HB2.out.mono HB0.out.size)⟩
      | true =>
        rw [hv, HALL.out, Bool.true_and] at hst
        have HST := Lib.hid hst
        rw [hv] at hln
        clear hv hst hmem
        generalize l2[k] = y at *
        go_wp2_with fail
        refine hln.mono ?_
        rintro e W3 ⟨rfl, rfl⟩
        go_wp2
        go_roundw
        case rel => exact ⟨k + 1, by omega, by go_num, HST.out, trivial⟩
        case measure => simp [RowKit.intOf]; omega
    · have hkn : k = l2.length := by omega
      subst hkn
      have hall := HALL.out
      rw [List.take_length] at hall
      have HRE4 := Lib.hid ((if_neg (by rw [hall]; decide)).symm.trans HRE3.out)
      clear hall HALL HRE3 y0 y1 y3
      go_wp2
      clear y2
      go_loopw [7] (fun i wr => ∃ k : Nat, k ≤ l3.length ∧ i = .int .i64 k ∧ (l3.take k).all (headB gs) = true ∧ Below W0.heap.size W0 wr) (fun i _ => l3.length - (RowKit.intOf i).toNat)
      case atStart => exact ⟨0, by omega, rfl, by simp, HB2.out⟩
      case round =>
        obtain ⟨k, hk, rfl, hall, hbr⟩ := hrel
        have HALL := Lib.hid hall; have HBR := Lib.hid hbr
        clear hall hbr
        obtain ⟨-, y0, y1, y2, y3⟩ := HCS.out wr HBR.out
        by_cases hlt : k < l3.length
        · have hkI : (k : Int) < (l3.length : Int) := by omega
          obtain ⟨ad, rfl, had, hc⟩ := (HR3.out wr HBR.out).at_ (k := k) hlt
          have hln := rhead_any (HD.out wr HBR.out) l3[k] (HO4.out _ (List.getElem_mem hlt))
          have hst : (l3.take (k + 1)).all (headB gs) = ((l3.take k).all (headB gs) && headB gs l3[k]) := by rw [List.take_succ_eq_append_getElem hlt, List.all_append]; simp
          have hmem := List.getElem_mem hlt
          cases hv : headB gs l3[k] with
          | false =>
            have hna : l3.all (headB gs) = false := by
              rw [List.all_eq_false]
              exact ⟨_, hmem, by rw [hv]; decide⟩
            obtain rfl : (10 : Int) = r := by have e := HRE4.out; rw [if_pos hna] at e; exact e
            rw [hv] at hln
            clear hv hst hmem hna
            generalize l3[k] = y at *
            go_wp2_with fail
            refine hln.mono ?_
            rintro e W3 ⟨rfl, hb3⟩
            have HB3 := Lib.hid (HBR.out.trans (hb3.mono HBR.out.size))
            clear hln hb3
            go_wp2
            go_ret
            exact ⟨rfl, HB0.out.trans (HB3.out.mono HB0.out.size)⟩
          | true =>
            rw [hv, HALL.out, Bool.true_and] at hst
            have HST := Lib.hid hst
            rw [hv] at hln
            clear hv hst hmem
            generalize l3[k] = y at *
            go_wp2_with fail
            refine hln.mono ?_
            rintro e W3 ⟨rfl, hb3⟩
            have HB3 := Lib.hid (HBR.out.trans (hb3.mono HBR.out.size))
            clear hln hb3
            go_wp2
            go_roundw
            case rel => exact ⟨k + 1, by omega, by go_num, HST.out, HB3.out⟩
            case measure => simp [RowKit.intOf]; omega
        · have hkn : k = l3.length := by omega
          subst hkn
          have hall := HALL.out
          rw [List.take_length] at hall
          have HRE5 := Lib.hid ((if_neg (by rw [hall]; decide)).symm.trans HRE4.out)
          obtain ⟨W3, hW3⟩ : ∃ W, W = wr := ⟨_, rfl⟩
          subst hW3
          clear hall HALL HRE4 y0 y1 y2
          go_wp2
          clear y3
          go_loopw [8, 9] (fun i _ wr => ∃ k : Nat, k ≤ l3.length ∧ i = .int .i64 k ∧ (∀ i j (hij : i < j) (hj : j < l3.length), j < k → l3[i]'(by omega) ≠ l3[j]) ∧ Below W0.heap.size W0 wr) (fun i _ _ => l3.length - (RowKit.intOf i).toNat)
          case atStart => exact ⟨0, by omega, rfl, fun _ _ _ _ h => absurd h (by omega), HBR.out⟩
          case round =>
            obtain ⟨k, hk, rfl, hno, hbk⟩ := hrel
            have HNO := Lib.hid hno; have HBK := Lib.hid hbk
            clear hno hbk
            obtain ⟨⟨z0, z1, z2⟩, y0, y1, y2, y3⟩ := HCS.out wr HBK.out
            by_cases hlt : k < l3.length
            · have hkI : (k : Int) < (l3.length : Int) := by omega
              obtain ⟨ad, rfl, had, hc⟩ := (HR3.out W0 (Below.refl _ _)).at_ (k := k) hlt
              have hrd : ∀ i (hi : i < l3.length) W, Below W0.heap.size W0 W → W.cell? (ad.add i) = some (.string l3[i]) := fun i hi W hW => by
                obtain ⟨ad2, e, -, hc2⟩ := (HR3.out W hW).at_ (k := i) hi
                injection e with e
                subst e
                exact hc2
              have HRD := Lib.hid hrd
              clear had hc hrd z0 z1 z2 y0 y1 y2
              obtain ⟨W4, hW4⟩ : ∃ W, W = wr := ⟨_, rfl⟩
              subst hW4
              go_wp2
              clear y3
              go_loopw [9] (fun i wr => ∃ j : Nat, j ≤ k ∧ i = .int .i64 j ∧ (∀ i (hi : i < k), i < j → l3[i]'(by omega) ≠ l3[k]) ∧ Below W0.heap.size W0 wr) (fun i _ => k - (RowKit.intOf i).toNat)
              case atStart => exact ⟨0, by omega, rfl, fun _ _ h => absurd h (by omega), HBK.out⟩
              case round =>
                obtain ⟨j, hj, rfl, hno2, hbj⟩ := hrel
                have HN2 := Lib.hid hno2; have HBJ := Lib.hid hbj
                clear hno2 hbj
                by_cases hjl : j < k
                · have hjI : (j : Int) < (k : Int) := by omega
                  have hjL : (j : Int) < (l3.length : Int) := by omega
                  have hkp : ∀ W, Below W0.heap.size W0 W → W.cell? ⟨b, 3, none⟩ = some (.slice (some ad) l3.length c3) ∧ W.cell? (ad.add j) = some (.string (l3[j]'(by omega))) ∧ W.cell? (ad.add k) = some (.string l3[k]) := fun W hW => ⟨(HCS.out W hW).2.2.2.2, HRD.out j (by omega) W hW, HRD.out k hlt W hW⟩
                  have HKP := Lib.hid hkp
                  obtain ⟨y3, x0, x1⟩ := hkp wr HBJ.out
                  have hbe := beq_ba (l3[j]'(by omega)) l3[k]
                  by_cases heq : l3[j]'(by omega) = l3[k]
                  · obtain rfl : (6 : Int) = r := by have e := HRE5.out; rw [if_pos (not_nodup_at hjl hlt heq)] at e; exact e
                    rw [decide_eq_true heq] at hbe
                    clear heq hkp
                    generalize l3[k] = y at *
                    generalize (l3[j]'(by omega)) = x at *
                    go_upto_region 24 with fail
                    refine wp_region_held_drew (S := (fun W => W.cell? ⟨b, 3, none⟩ = some (.slice (some ad) l3.length c3) ∧ W.cell? (ad.add j) = some (.string x) ∧ W.cell? (ad.add k) = some (.string y))) (by kernel_rfl) ?_ (fun hHeld => ?_)
                    · (try dsimp only)
                      exact HKP.out _ HBJ.out.drew
                    refine wpAnyH_take (i := 0) (v := ?_) rfl (by kernel_rfl) (by kernel_rfl) (by kernel_rfl) (fun _ _ _ h => h) (Or.inl ⟨by rfl, ?_⟩) (by assumption) ?_
                    rotate_left
                    · intro w hSw
                      (try dsimp only at hSw)
                      go_simp <;> with_reducible rfl
                    try simp only [Act.put, List.getElem_toArray, List.getElem_cons_succ, List.getElem_cons_zero, List.setIfInBounds_toArray, List.set_cons_zero, List.set_cons_succ]
                    refine wpAnyH_take (i := 1) (v := ?_) rfl (by kernel_rfl) (by kernel_rfl) (by kernel_rfl) (fun _ _ _ h => h) (Or.inl ⟨by rfl, ?_⟩) (by assumption) ?_
                    rotate_left
                    · intro w hSw
                      (try dsimp only at hSw)
                      go_simp <;> with_reducible rfl
                    try simp only [Act.put, List.getElem_toArray, List.getElem_cons_succ, List.getElem_cons_zero, List.setIfInBounds_toArray, List.set_cons_zero, List.set_cons_succ]
                    refine wpAnyH_take (i := 2) (v := ?_) rfl (by kernel_rfl) (by kernel_rfl) (by kernel_rfl) (fun _ _ _ h => h) (Or.inl ⟨by rfl, ?_⟩) (by assumption) ?_
                    rotate_left
                    · intro w hSw
                      (try dsimp only at hSw)
                      go_simp <;> with_reducible rfl
                    try simp only [Act.put, List.getElem_toArray, List.getElem_cons_succ, List.getElem_cons_zero, List.setIfInBounds_toArray, List.set_cons_zero, List.set_cons_succ]
                    refine wpAnyH_take (i := 3) (v := ?_) rfl (by kernel_rfl) (by kernel_rfl) (by kernel_rfl) (fun _ _ _ h => h) (Or.inl ⟨by rfl, ?_⟩) (by assumption) ?_
                    rotate_left
                    · intro w hSw
                      (try dsimp only at hSw)
                      go_simp <;> with_reducible rfl
                    try simp only [Act.put, List.getElem_toArray, List.getElem_cons_succ, List.getElem_cons_zero, List.setIfInBounds_toArray, List.set_cons_zero, List.set_cons_succ]
                    refine wpAnyH_take (i := 4) (v := ?_) rfl (by kernel_rfl) (by kernel_rfl) (by kernel_rfl) (fun _ _ _ h => h) (Or.inl ⟨by rfl, ?_⟩) (by assumption) ?_
                    rotate_left
                    · intro w hSw
                      (try dsimp only at hSw)
                      go_simp <;> with_reducible rfl
                    try simp only [Act.put, List.getElem_toArray, List.getElem_cons_succ, List.getElem_cons_zero, List.setIfInBounds_toArray, List.set_cons_zero, List.set_cons_succ]
                    refine wpAnyH_take (i := 5) (v := ?_) rfl (by kernel_rfl) (by kernel_rfl) (by kernel_rfl) (fun _ _ _ h => h) (Or.inl ⟨by rfl, ?_⟩) (by assumption) ?_
                    rotate_left
                    · intro w hSw
                      (try dsimp only at hSw)
                      go_simp <;> with_reducible rfl
                    try simp only [Act.put, List.getElem_toArray, List.getElem_cons_succ, List.getElem_cons_zero, List.setIfInBounds_toArray, List.set_cons_zero, List.set_cons_succ]
                    refine wpAnyH_take (i := 6) (v := ?_) rfl (by kernel_rfl) (by kernel_rfl) (by kernel_rfl) (fun _ _ _ h => h) (Or.inl ⟨by rfl, ?_⟩) (by assumption) ?_
                    rotate_left
                    · intro w hSw
                      (try dsimp only at hSw)
                      go_simp <;> with_reducible rfl
                    try simp only [Act.put, List.getElem_toArray, List.getElem_cons_succ, List.getElem_cons_zero, List.setIfInBounds_toArray, List.set_cons_zero, List.set_cons_succ]
                    refine wpAnyH_take (i := 7) (v := ?_) rfl (by kernel_rfl) (by kernel_rfl) (by kernel_rfl) (fun _ _ _ h => h) (Or.inl ⟨by rfl, ?_⟩) (by assumption) ?_
                    rotate_left
                    · intro w hSw
                      (try dsimp only at hSw)
                      go_simp <;> with_reducible rfl
                    try simp only [Act.put, List.getElem_toArray, List.getElem_cons_succ, List.getElem_cons_zero, List.setIfInBounds_toArray, List.set_cons_zero, List.set_cons_succ]
                    refine wpAnyH_take (i := 8) (v := ?_) rfl (by kernel_rfl) (by kernel_rfl) (by kernel_rfl) (fun _ _ _ h => h) (Or.inl ⟨by rfl, ?_⟩) (by assumption) ?_
                    rotate_left
                    · intro w hSw
                      (try dsimp only at hSw)
                      go_simp <;> with_reducible rfl
                    try simp only [Act.put, List.getElem_toArray, List.getElem_cons_succ, List.getElem_cons_zero, List.setIfInBounds_toArray, List.set_cons_zero, List.set_cons_succ]
                    refine wpAnyH_take (i := 9) (v := ?_) rfl (by kernel_rfl) (by kernel_rfl) (by kernel_rfl) (fun _ _ _ h => h) (Or.inl ⟨by rfl, ?_⟩) (by assumption) ?_
                    rotate_left
                    · intro w hSw
                      (try dsimp only at hSw)
                      go_simp <;> with_reducible rfl
                    try simp only [Act.put, List.getElem_toArray, List.getElem_cons_succ, List.getElem_cons_zero, List.setIfInBounds_toArray, List.set_cons_zero, List.set_cons_succ]
                    refine wpAnyH_take (i := 10) (v := ?_) rfl (by kernel_rfl) (by kernel_rfl) (by kernel_rfl) (fun _ _ _ h => h) (Or.inl ⟨by rfl, ?_⟩) (by assumption) ?_
                    rotate_left
                    · intro w hSw
                      (try dsimp only at hSw)
                      go_simp <;> with_reducible rfl
                    try simp only [Act.put, List.getElem_toArray, List.getElem_cons_succ, List.getElem_cons_zero, List.setIfInBounds_toArray, List.set_cons_zero, List.set_cons_succ]
                    refine wpAnyH_done (by kernel_rfl) ?_ _
                    go_wp2
                    go_ret
                    exact ⟨rfl, HB0.out.trans (HBJ.out.drew.mono HB0.out.size)⟩
                  · rw [decide_eq_false heq] at hbe
                    have hno3 : ∀ i (hi : i < k), i < j + 1 → l3[i]'(by omega) ≠ l3[k] := fun i hi hij => by
                      rcases (by omega : i < j ∨ i = j) with h1 | rfl
                      · exact HN2.out i hi h1
                      · exact heq
                    have HN3 := Lib.hid hno3
                    clear heq hkp hno3
                    obtain ⟨y, hy⟩ : ∃ y, l3[k] = y := ⟨_, rfl⟩
                    obtain ⟨x, hx⟩ : ∃ x, l3[j]'(by omega) = x := ⟨_, rfl⟩
                    rw [hx, hy] at hbe HKP
                    rw [hx] at x0
                    rw [hy] at x1
                    clear hx hy
                    go_upto_region 24 with fail
                    refine wp_region_held_drew (S := (fun W => W.cell? ⟨b, 3, none⟩ = some (.slice (some ad) l3.length c3) ∧ W.cell? (ad.add j) = some (.string x) ∧ W.cell? (ad.add k) = some (.string y))) (by kernel_rfl) ?_ (fun hHeld => ?_)
                    · (try dsimp only)
                      exact HKP.out _ HBJ.out.drew
                    refine wpAnyH_take (i := 0) (v := ?_) rfl (by kernel_rfl) (by kernel_rfl) (by kernel_rfl) (fun _ _ _ h => h) (Or.inl ⟨by rfl, ?_⟩) (by assumption) ?_
                    rotate_left
                    · intro w hSw
                      (try dsimp only at hSw)
                      go_simp <;> with_reducible rfl
                    try simp only [Act.put, List.getElem_toArray, List.getElem_cons_succ, List.getElem_cons_zero, List.setIfInBounds_toArray, List.set_cons_zero, List.set_cons_succ]
                    refine wpAnyH_take (i := 1) (v := ?_) rfl (by kernel_rfl) (by kernel_rfl) (by kernel_rfl) (fun _ _ _ h => h) (Or.inl ⟨by rfl, ?_⟩) (by assumption) ?_
                    rotate_left
                    · intro w hSw
                      (try dsimp only at hSw)
                      go_simp <;> with_reducible rfl
                    try simp only [Act.put, List.getElem_toArray, List.getElem_cons_succ, List.getElem_cons_zero, List.setIfInBounds_toArray, List.set_cons_zero, List.set_cons_succ]
                    refine wpAnyH_take (i := 2) (v := ?_) rfl (by kernel_rfl) (by kernel_rfl) (by kernel_rfl) (fun _ _ _ h => h) (Or.inl ⟨by rfl, ?_⟩) (by assumption) ?_
                    rotate_left
                    · intro w hSw
                      (try dsimp only at hSw)
                      go_simp <;> with_reducible rfl
                    try simp only [Act.put, List.getElem_toArray, List.getElem_cons_succ, List.getElem_cons_zero, List.setIfInBounds_toArray, List.set_cons_zero, List.set_cons_succ]
                    refine wpAnyH_take (i := 3) (v := ?_) rfl (by kernel_rfl) (by kernel_rfl) (by kernel_rfl) (fun _ _ _ h => h) (Or.inl ⟨by rfl, ?_⟩) (by assumption) ?_
                    rotate_left
                    · intro w hSw
                      (try dsimp only at hSw)
                      go_simp <;> with_reducible rfl
                    try simp only [Act.put, List.getElem_toArray, List.getElem_cons_succ, List.getElem_cons_zero, List.setIfInBounds_toArray, List.set_cons_zero, List.set_cons_succ]
                    refine wpAnyH_take (i := 4) (v := ?_) rfl (by kernel_rfl) (by kernel_rfl) (by kernel_rfl) (fun _ _ _ h => h) (Or.inl ⟨by rfl, ?_⟩) (by assumption) ?_
                    rotate_left
                    · intro w hSw
                      (try dsimp only at hSw)
                      go_simp <;> with_reducible rfl
                    try simp only [Act.put, List.getElem_toArray, List.getElem_cons_succ, List.getElem_cons_zero, List.setIfInBounds_toArray, List.set_cons_zero, List.set_cons_succ]
                    refine wpAnyH_take (i := 5) (v := ?_) rfl (by kernel_rfl) (by kernel_rfl) (by kernel_rfl) (fun _ _ _ h => h) (Or.inl ⟨by rfl, ?_⟩) (by assumption) ?_
                    rotate_left
                    · intro w hSw
                      (try dsimp only at hSw)
                      go_simp <;> with_reducible rfl
                    try simp only [Act.put, List.getElem_toArray, List.getElem_cons_succ, List.getElem_cons_zero, List.setIfInBounds_toArray, List.set_cons_zero, List.set_cons_succ]
                    refine wpAnyH_take (i := 6) (v := ?_) rfl (by kernel_rfl) (by kernel_rfl) (by kernel_rfl) (fun _ _ _ h => h) (Or.inl ⟨by rfl, ?_⟩) (by assumption) ?_
                    rotate_left
                    · intro w hSw
                      (try dsimp only at hSw)
                      go_simp <;> with_reducible rfl
                    try simp only [Act.put, List.getElem_toArray, List.getElem_cons_succ, List.getElem_cons_zero, List.setIfInBounds_toArray, List.set_cons_zero, List.set_cons_succ]
                    refine wpAnyH_take (i := 7) (v := ?_) rfl (by kernel_rfl) (by kernel_rfl) (by kernel_rfl) (fun _ _ _ h => h) (Or.inl ⟨by rfl, ?_⟩) (by assumption) ?_
                    rotate_left
                    · intro w hSw
                      (try dsimp only at hSw)
                      go_simp <;> with_reducible rfl
                    try simp only [Act.put, List.getElem_toArray, List.getElem_cons_succ, List.getElem_cons_zero, List.setIfInBounds_toArray, List.set_cons_zero, List.set_cons_succ]
                    refine wpAnyH_take (i := 8) (v := ?_) rfl (by kernel_rfl) (by kernel_rfl) (by kernel_rfl) (fun _ _ _ h => h) (Or.inl ⟨by rfl, ?_⟩) (by assumption) ?_
                    rotate_left
                    · intro w hSw
                      (try dsimp only at hSw)
                      go_simp <;> with_reducible rfl
                    try simp only [Act.put, List.getElem_toArray, List.getElem_cons_succ, List.getElem_cons_zero, List.setIfInBounds_toArray, List.set_cons_zero, List.set_cons_succ]
                    refine wpAnyH_take (i := 9) (v := ?_) rfl (by kernel_rfl) (by kernel_rfl) (by kernel_rfl) (fun _ _ _ h => h) (Or.inl ⟨by rfl, ?_⟩) (by assumption) ?_
                    rotate_left
                    · intro w hSw
                      (try dsimp only at hSw)
                      go_simp <;> with_reducible rfl
                    try simp only [Act.put, List.getElem_toArray, List.getElem_cons_succ, List.getElem_cons_zero, List.setIfInBounds_toArray, List.set_cons_zero, List.set_cons_succ]
                    refine wpAnyH_take (i := 10) (v := ?_) rfl (by kernel_rfl) (by kernel_rfl) (by kernel_rfl) (fun _ _ _ h => h) (Or.inl ⟨by rfl, ?_⟩) (by assumption) ?_
                    rotate_left
                    · intro w hSw
                      (try dsimp only at hSw)
                      go_simp <;> with_reducible rfl
                    try simp only [Act.put, List.getElem_toArray, List.getElem_cons_succ, List.getElem_cons_zero, List.setIfInBounds_toArray, List.set_cons_zero, List.set_cons_succ]
                    refine wpAnyH_done (by kernel_rfl) ?_ _
                    go_wp2
                    go_roundw
                    case rel => exact ⟨j + 1, by omega, by go_num, HN3.out, HBJ.out.drew⟩
                    case measure => simp [RowKit.intOf]; omega
                · obtain rfl : k = j := by omega
                  go_wp2
                  go_roundw
                  case rel => exact ⟨k + 1, by omega, by go_num, fun i j hij hj hjk => by
                    rcases (by omega : j < k ∨ j = k) with h1 | rfl
                    · exact HNO.out i j hij hj h1
                    · exact HN2.out i hij hij, HBJ.out⟩
                  case measure => simp [RowKit.intOf]; omega
            · have hkn : k = l3.length := by omega
              subst hkn
              have htw := nodup_of (l := l3) fun i j hij hj => HNO.out i j hij hj hj
              have HRE6 := Lib.hid ((if_neg (by rw [htw]; decide)).symm.trans HRE5.out)
              have hat := rat_any (HD.out wr HBK.out) hd
              have hth := atV_there (L := L) (s := hd)
              clear htw HNO HRE5 y1 y2
              by_cases hthb : thereB L hd = true
              · obtain rfl : (6 : Int) = r := by have e := HRE6.out; rw [if_pos hthb] at e; exact e
                rw [hthb, decide_eq_true_iff] at hth
                clear hthb
                generalize atV L hd = av at *
                go_wp2_with fail
                refine hat.mono ?_
                rintro e W5 ⟨rfl, rfl⟩
                go_wp2
                go_ret
                exact ⟨rfl, HB0.out.trans (HBK.out.mono HB0.out.size)⟩
              · have HRE7 := Lib.hid ((if_neg hthb).symm.trans HRE6.out)
                rw [Bool.not_eq_true] at hthb
                rw [hthb, decide_eq_false_iff_not] at hth
                clear hthb HRE6
                generalize atV L hd = av at *
                by_cases hfull : 1024 ≤ L.length
                · obtain rfl : (4 : Int) = r := by have e := HRE7.out; rw [if_pos hfull] at e; exact e
                  have hfI : (1024 : Int) ≤ (L.length : Int) := by omega
                  go_wp2_with fail
                  refine hat.mono ?_
                  rintro e W5 ⟨rfl, rfl⟩
                  go_wp2
                  go_ret
                  exact ⟨rfl, HB0.out.trans (HBK.out.mono HB0.out.size)⟩
                · obtain rfl : (0 : Int) = r := by have e := HRE7.out; rw [if_neg hfull] at e; exact e
                  have hfI : ¬ (1024 : Int) ≤ (L.length : Int) := by omega
                  go_wp2_with fail
                  refine hat.mono ?_
                  rintro e W5 ⟨rfl, rfl⟩
                  go_wp2
                  go_ret
                  exact ⟨rfl, HB0.out.trans (HBK.out.mono HB0.out.size)⟩
end
end Go.Proofs.YtgkpoopiamicnaaGreatDoor
