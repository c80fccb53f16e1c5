/-
  Layer 40: the reference's Range. Conditions: a good dictionary, texts of the reach.
-/
import Derived.Test.YtgkpoopiamicnaaGreatDoorDtRq
import Derived.Test.YtgkpoopiamicnaaGreatDoorDtRg
namespace Go.Proofs.YtgkpoopiamicnaaGreatDoor
open Go.RowKit Go.Lib

theorem count_upto {gs : Grps} {t : ByteArray} (ht : keyOk gs t) : ∀ {l : List ByteArray}, (∀ y ∈ l, keyOk gs y) → l.Nodup → l.countP (fun y => !decide (ordT gs t y < 0)) = l.countP (fun y => decide (ordT gs y t < 0)) + if memB l t = true then 1 else 0
  | [], _, _ => rfl
  | a :: l, hk, hn => by
    rw [List.nodup_cons] at hn
    have ih := count_upto ht (l := l) (fun y hy => hk y (List.mem_cons_of_mem _ hy)) hn.2
    have hm : memB (a :: l) t = (decide (a = t) || memB l t) := rfl
    have hanti := (goodO gs).anti t a
    rw [List.countP_cons, List.countP_cons, ih, hm]
    by_cases e : a = t
    · subst e
      have hs := (goodO gs).self a
      have hno : memB l a = false := by
        rw [← Bool.not_eq_true, memB_iff]; exact hn.1
      rw [hno, hs]
      simp
    · have hne : ordT gs a t ≠ 0 := fun h => e ((goodO gs).zero _ _ (hk a List.mem_cons_self) ht h)
      have hq : (!decide (ordT gs t a < 0)) = decide (ordT gs a t < 0) := by
        by_cases h : ordT gs a t < 0
        · rw [decide_eq_true h, decide_eq_false (show ¬ ordT gs t a < 0 by omega)]; rfl
        · rw [decide_eq_false h, decide_eq_true (show ordT gs t a < 0 by omega)]; rfl
      rw [hq, decide_eq_false e, Bool.false_or]
      omega
theorem range_filter {gs : Grps} {L : List Art} {s t : ByteArray} (hg : GoodD gs L) (hs : keyOk gs s) (ht : keyOk gs t) : rangeL gs L s t = L.filter fun x => !decide (ordT gs x.head s < 0) && !decide (ordT gs t x.head < 0) := by
  have hp := hg.sorted.ahead (goodO gs) hg.keys hs
  have hq := hg.sorted.ahead_le (goodO gs) hg.keys ht
  have hp2 : Ahead (fun x : Art => decide (ordT gs x.head s < 0)) L := List.pairwise_map.1 hp
  have hq2 : Ahead (fun x : Art => !decide (ordT gs t x.head < 0)) L := List.pairwise_map.1 hq
  have hc1 : placeT gs L s = L.countP fun x => decide (ordT gs x.head s < 0) := by
    unfold placeT headsL
    rw [List.countP_map]; rfl
  have hc2 : upTo gs L t = L.countP fun x => !decide (ordT gs t x.head < 0) := by
    have h := count_upto ht (l := headsL L) hg.keys hg.nodup
    unfold upTo placeT thereB
    rw [← h]
    unfold headsL
    rw [List.countP_map]; rfl
  unfold rangeL
  rw [if_pos (rangeE_zero.2 ⟨hs, ht⟩), hc1, hc2]
  exact ahead_between hp2 hq2
section
variable {w w' : World} {B a g : Nat} {lv : Value} {gs : Grps} {S : Nat → Prop} {L : List Art}
set_option linter.unusedSimpArgs false in
set_option maxRecDepth 20000 in
set_option maxHeartbeats 8000000 in
theorem rrange_any (h : RDct w B a g lv gs S L) (hg : GoodD gs L) (s t : ByteArray) (hs : s.size ≤ 140737488351232) (ht : t.size ≤ 140737488351232) :
    Calls Tryz.prog 17 #[wptr g, .string s, .string t] w (RangePost w (rangeL gs L s t) (rangeE gs s t)) := by
  obtain ⟨i0, hi, hz0, hz1, hz2⟩ := info_parts (show (Tryz.prog.info? 42).map (fun i => (i.zero, i.size, i.bytes)) = some (some (.agg #[.string ⟨#[]⟩, .slice none 0 0, .slice none 0 0, .slice none 0 0]), 4, 88) by kernel_rfl)
  have hlen := hg.len
  have hv := rvalid_any h
  have hdd : ∀ W, Below w.heap.size w W → RDct W B a g lv gs S L := fun W hW => h.below hW
  obtain ⟨A, c, rfl, hc1, hc2⟩ := h.list.form
  have hce : ∀ W, Below w.heap.size w W → W.cell? ⟨g, 0, none⟩ = some (.bool true) ∧ W.cell? ⟨g, 1, none⟩ = some (.pointer (some ⟨a, 0, none⟩)) ∧ W.cell? ⟨g, 2, none⟩ = some (.slice A L.length c) := fun W hW => (hdd W hW).cells
  have hk1 := rkey_any h s hs
  have hk2 := fun W (hW : Below w.heap.size w W) => rkey_any (hdd W hW) t ht
  have hbf := fun i (hi : i < L.length) W (hW : Below w.heap.size w W) => rbefore_any (hdd W hW) L[i].head s (by have := (hg.arts _ (List.getElem_mem hi)).size; omega) hs
  have hbt := fun i (hi : i < L.length) W (hW : Below w.heap.size w W) => rbefore_any (hdd W hW) t L[i].head ht (by have := (hg.arts _ (List.getElem_mem hi)).size; omega)
  have hat : ∀ i (hi : i < L.length), ∃ ad Y1 z1 Y2 z2 Y3 z3, A = some ad ∧ ArtF w S L[i] [.string L[i].head, .slice Y1 L[i].word.length z1, .slice Y2 L[i].texts.length z2, .slice Y3 L[i].see.length z3] ∧ ∀ W, Below w.heap.size w W → ArtCells W (ad.add (i * 4)) L[i] Y1 z1 Y2 z2 Y3 z3 := fun i hi => by
    obtain ⟨ad, Y1, z1, Y2, z2, Y3, z3, e, hx, -, hrun⟩ := art_at h.list hi
    exact ⟨ad, Y1, z1, Y2, z2, Y3, z3, e, hx, fun W hW => hrun W (keepS_below hW fun b hb => (h.cont b hb).2.1)⟩
  have hcont := fun b hb => (h.cont b hb).2.1
  have hrf := fun h1 h2 => range_filter (s := s) (t := t) hg h1 h2
  have hga := hg.arts
  have HDD := Lib.hid hdd; have HCE := Lib.hid hce; have HK2 := Lib.hid hk2; have HBF := Lib.hid hbf; have HBT := Lib.hid hbt; have HAT := Lib.hid hat; have HCONT := Lib.hid hcont; have HRF := Lib.hid hrf; have HGA := Lib.hid hga
  obtain ⟨n, hn⟩ : ∃ n, L.length = n := ⟨_, rfl⟩
  have HN := Lib.hid hn
  rw [hn] at HCE hlen
  have hee : ∀ x y, rangeE gs x y = if (readRes gs x).1 = 0 then (readRes gs y).1 else (readRes gs x).1 := fun _ _ => rfl
  have HEE := Lib.hid hee
  obtain ⟨z0, z1, z2⟩ := HCE.out w (Below.refl _ _)
  clear h hg hdd hce hk2 hbf hbt hat hcont hrf hga hn hee hc1 hc2
  go_enter Tryz.func17, Tryz.ntmps17
  go_wp2_with fail
  refine hv.mono ?_
  rintro e w1 ⟨rfl, rfl⟩
  clear hv
  by_cases hks : (readRes gs s).1 = 0
  case neg =>
    have hr : rangeE gs s t = (readRes gs s).1 := by rw [HEE.out, if_neg hks]
    have hl : rangeL gs L s t = [] := by unfold rangeL; rw [if_neg (by rw [hr]; exact hks)]
    have HR := Lib.hid hr; have HL := Lib.hid hl
    have heI : ((readRes gs s).1 == 0) = false := beq_false_of_ne hks
    clear hr hl hks
    generalize (readRes gs s).1 = k at *
    go_wp2_with fail
    refine hk1.mono ?_
    rintro e w2 ⟨⟨v, rfl⟩, hb2⟩
    have HB2 := Lib.hid hb2
    clear hk1 hb2
    go_wp2
    go_ret2
    show RangePost w (rangeL gs L s t) (rangeE gs s t) _ _
    rw [HR.out, HL.out]
    exact range_nil _ HB2.out
  case pos =>
  have HKS := Lib.hid hks
  rw [hks] at hk1
  clear hks
  go_wp2_with fail
  refine hk1.mono ?_
  rintro e w2 ⟨⟨v, rfl⟩, hb2⟩
  have HB2 := Lib.hid hb2
  have hk2 := HK2.out w2 hb2
  clear hk1 hb2 z0 z1 z2
  obtain ⟨z0, z1, z2⟩ := HCE.out w2 HB2.out
  by_cases hkt : (readRes gs t).1 = 0
  case neg =>
    have hr : rangeE gs s t = (readRes gs t).1 := by rw [HEE.out, if_pos HKS.out]
    have hl : rangeL gs L s t = [] := by unfold rangeL; rw [if_neg (by rw [hr]; exact hkt)]
    have HR := Lib.hid hr; have HL := Lib.hid hl
    have heI : ((readRes gs t).1 == 0) = false := beq_false_of_ne hkt
    clear hr hl hkt
    generalize (readRes gs t).1 = k at *
    go_wp2_with fail
    refine hk2.mono ?_
    rintro e w3 ⟨⟨v, rfl⟩, hb3⟩
    have HB3 := Lib.hid (HB2.out.trans (hb3.mono HB2.out.size))
    clear hk2 hb3
    go_wp2
    go_ret2
    show RangePost w (rangeL gs L s t) (rangeE gs s t) _ _
    rw [HR.out, HL.out]
    exact range_nil _ HB3.out
  case pos =>
  have hr : rangeE gs s t = 0 := rangeE_zero.2 ⟨HKS.out, hkt⟩
  have HR := Lib.hid hr
  have HL := Lib.hid (HRF.out HKS.out hkt)
  rw [hkt] at hk2
  clear hr hkt
  go_wp2_with fail
  refine hk2.mono ?_
  rintro e w3 ⟨⟨v, rfl⟩, hb3⟩
  have HB3 := Lib.hid (HB2.out.trans (hb3.mono HB2.out.size))
  clear hk2 hb3 z0 z1 z2
  go_wp2
  go_loopw [10, 11] (fun v i wr => ∃ (k : Nat) (xs : List Value), k ≤ n ∧ i = .int .i64 k ∧ GR ArtF 4 42 w wr ((L.take k).filter fun x => !decide (ordT gs x.head s < 0) && !decide (ordT gs t x.head < 0)) v xs) (fun _ i _ => n - (RowKit.intOf i).toNat)
  case atStart => exact ⟨0, [], by omega, rfl, GR.start HB3.out⟩
  case round =>
    obtain ⟨k, xs, hk, rfl, hgr⟩ := hrel
    have HGR := Lib.hid hgr
    have HB := Lib.hid hgr.ch
    clear hgr
    obtain ⟨z0, z1, z2⟩ := HCE.out wr HB.out
    by_cases hlt : k < n
    · have hkI : (k : Int) < (n : Int) := by omega
      have hkl : k < L.length := by rw [HN.out]; exact hlt
      obtain ⟨ad, Y1, q1, Y2, q2, Y3, q3, rfl, hx, hcells⟩ := HAT.out k hkl
      obtain ⟨x0, -, -, -⟩ := hcells wr HB.out
      have hb1 := HBF.out k hkl wr HB.out
      have hb2 := HBT.out k hkl
      have hst : (L.take (k + 1)).filter (fun x => !decide (ordT gs x.head s < 0) && !decide (ordT gs t x.head < 0)) = (L.take k).filter (fun x => !decide (ordT gs x.head s < 0) && !decide (ordT gs t x.head < 0)) ++ [L[k]].filter (fun x => !decide (ordT gs x.head s < 0) && !decide (ordT gs t x.head < 0)) := by
        rw [List.take_succ_eq_append_getElem hkl, List.filter_append]
      have hfl : ((L.take k).filter fun x => !decide (ordT gs x.head s < 0) && !decide (ordT gs t x.head < 0)).length ≤ 1024 := Nat.le_trans (List.length_filter_le _ _) (by rw [List.length_take]; omega)
      have hsh := goodA_short (HGA.out _ (List.getElem_mem hkl))
      have HCELLS := Lib.hid hcells; have HX := Lib.hid hx; have HSH := Lib.hid hsh; have HB2 := Lib.hid hb2
      clear hcells hx hsh hb2
      generalize hM : (L.take k).filter (fun x => !decide (ordT gs x.head s < 0) && !decide (ordT gs t x.head < 0)) = M at *
      generalize L[k] = y at *
      clear hM
      by_cases c1 : ordT gs y.head s < 0
      · have hst2 : (L.take (k + 1)).filter (fun x => !decide (ordT gs x.head s < 0) && !decide (ordT gs t x.head < 0)) = M := by rw [hst]; simp [c1]
        rw [decide_eq_true c1] at hb1
        have HST := Lib.hid hst2
        clear hst hst2 c1
        go_wp2_with fail
        refine hb1.mono ?_
        rintro e w4 ⟨rfl, hb4⟩
        have HG4 := Lib.hid (HGR.out.below keepF_art hb4)
        clear hb1 hb4
        go_wp2
        go_roundw
        case rel => exact ⟨k + 1, _, by omega, by go_num, by rw [HST.out]; exact HG4.out⟩
        case measure => simp [RowKit.intOf]; omega
      · rw [decide_eq_false c1] at hb1
        go_wp2_with fail
        refine hb1.mono ?_
        rintro e w4 ⟨rfl, hb4⟩
        have hg4 := HGR.out.below keepF_art hb4
        have HG4 := Lib.hid hg4
        have hbt := HB2.out w4 hg4.ch
        obtain ⟨x0, x1, x2, x3⟩ := HCELLS.out w4 hg4.ch
        clear z0 z1 z2
        obtain ⟨z0, z1, z2⟩ := HCE.out w4 hg4.ch
        clear hb1 hb4 hg4
        by_cases c2 : ordT gs t y.head < 0
        · have hst2 : (L.take (k + 1)).filter (fun x => !decide (ordT gs x.head s < 0) && !decide (ordT gs t x.head < 0)) = M := by rw [hst]; simp [c2]
          rw [decide_eq_true c2] at hbt
          have HST := Lib.hid hst2
          clear hst hst2 c1 c2
          go_wp2_with fail
          refine hbt.mono ?_
          rintro e w5 ⟨rfl, hb5⟩
          have HG5 := Lib.hid (HG4.out.below keepF_art hb5)
          clear hbt hb5
          go_wp2
          go_roundw
          case rel => exact ⟨k + 1, _, by omega, by go_num, by rw [HST.out]; exact HG5.out⟩
          case measure => simp [RowKit.intOf]; omega
        · have hst2 : (L.take (k + 1)).filter (fun x => !decide (ordT gs x.head s < 0) && !decide (ordT gs t x.head < 0)) = M ++ [y] := by rw [hst]; simp [c1, c2]
          rw [decide_eq_false c2] at hbt
          have HST := Lib.hid hst2
          clear hst hst2 c1 c2
          go_wp2_with fail
          refine hbt.mono ?_
          rintro e w5 ⟨rfl, hb5⟩
          have hg5 := HG4.out.below keepF_art hb5
          have HG5 := Lib.hid hg5
          have hcp := rcopied_any (HX.out.keep (w' := w5) (fun _ h => h) (keepS_below hg5.ch fun b hb => HCONT.out b hb)) (fun b hb => Nat.lt_of_lt_of_le (HCONT.out b hb) hg5.ch.size) HSH.out
          dsimp only [aggM] at hcp
          clear z0 z1 z2 x0 x1 x2 x3
          obtain ⟨x0, x1, x2, x3⟩ := HCELLS.out w5 hg5.ch
          obtain ⟨z0, z1, z2⟩ := HCE.out w5 hg5.ch
          clear hbt hb5 hg5
          go_wp2_with fail
          refine hcp.mono ?_
          rintro e w6 ⟨cs6, rfl, hx6, hb6⟩
          obtain ⟨Z1, z1', Z2, z2', Z3, z3', rfl⟩ := hx6.form
          dsimp only [aggM]
          obtain ⟨ml, hml⟩ : ∃ q, M.length = q := ⟨_, rfl⟩
          have HML := Lib.hid hml
          have hown2 := HG5.out.own2 hb6
          have hrn := reads_newk w6 42 [.string y.head, .slice Z1 y.word.length z1', .slice Z2 y.texts.length z2', .slice Z3 y.see.length z3'] 4 1 rfl
          rw [hml] at hown2 hfl
          have hsz2 := hb6.size
          have hsz1 := HG5.out.ch.size
          have H2 := Lib.hid hx6; have HBB := Lib.hid hb6; have HO2 := Lib.hid hown2; have HRN := Lib.hid hrn
          clear hx6 hb6 hown2 hrn hcp hml x0 x1 x2 x3 z0 z1 z2
          go_wp2_with (at_builtin; refine wpList_append_any _ rfl _ _ 23 rfl w.heap.size 42 i0 (.agg #[.string ⟨#[]⟩, .slice none 0 0, .slice none 0 0, .slice none 0 0]) 4 88 Tryz.underlying23 hi hz0 hz1 hz2 rfl (by decide) _ _ _ rfl (HO2.out.alloc _) _ _ _ _ [.string y.head, .slice Z1 y.word.length z1', .slice Z2 y.texts.length z2', .slice Z3 y.see.length z3'] rfl HRN.out (by intro u hu; simp only [List.mem_cons, List.not_mem_nil, or_false] at hu; rcases hu with rfl | rfl | rfl | rfl <;> rfl) (by unfold maxLen; omega) (by omega) (by simp; omega) ?_; intro v' w7 hown' hgrow hx'; have HN7 := Lib.hid (GR.next keepF_art HG5.out HBB.out H2.out (by rw [HML.out]; exact hown') hgrow hx'); clear hown' hgrow hx')
          go_roundw
          case rel => exact ⟨k + 1, _, by omega, by go_num, by rw [HST.out]; exact HN7.out⟩
          case measure => simp [RowKit.intOf]; omega
    · obtain rfl : n = k := by omega
      have hfin := HGR.out.fin keepF_art
      rw [List.take_of_length_le (by rw [HN.out]; exact Nat.le_refl _), ← HL.out] at hfin
      have HFIN := Lib.hid hfin
      clear hfin
      go_wp2
      go_ret2
      show RangePost w (rangeL gs L s t) (rangeE gs s t) _ _
      rw [HR.out]
      exact ⟨_, rfl, HFIN.out, HB.out⟩
end
end Go.Proofs.YtgkpoopiamicnaaGreatDoor
