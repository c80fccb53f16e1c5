/-
  Layer 40: Range: the walk. Conditions: a dictionary in memory.
-/
import Derived.Test.YtgkpoopiamicnaaGreatDoorZbas
namespace Go.Proofs.YtgkpoopiamicnaaGreatDoor
open Go.RowKit Go.Lib

section
variable {w : World} {B a g mb : Nat} {hv : Value} {gs : Grps} {S : Nat → Prop} {L : List Art} {f : ByteArray → Option Value}
def RangePost (w : World) (l : List Art) (k : Int) (e : Ending) (w' : World) : Prop := ∃ v, e = .returned (.tuple #[v, .int .i64 k]) ∧ ArtsF w' (NewS w w') l v ∧ Below w.heap.size w w'
theorem range_nil {w w' : World} (k : Int) (hb : Below w.heap.size w w') : RangePost w [] k (.returned (.tuple #[.slice none 0 0, .int .i64 k])) w' := ⟨_, rfl, slF_nil _ _ _ _, hb⟩
theorem readS_cut {w : World} {B i u n : Nat} {A A' : Option Addr} {l : List ByteArray} (h : ReadS w B A n l) (hi : i ≤ u) (hu : u ≤ n) (hA : i < u → A' = A.map (·.add i)) : ReadS w B A' (u - i) ((l.take u).drop i) := by
  have hl : l.length = n := h.len
  refine ⟨by simp; omega, fun hn => ?_⟩
  obtain ⟨ad, rfl, hb, hc⟩ := h.2 (by omega)
  rw [hA (by omega)]
  refine ⟨ad.add i, rfl, by rw [block_of_add]; exact hb, fun j v hv => ?_⟩
  rw [add_of_add]
  refine hc _ _ ?_
  have hj := (List.getElem?_eq_some_iff.1 hv).1
  rw [List.length_map, List.length_drop, List.length_take] at hj
  rw [List.getElem?_map, List.getElem?_drop, List.getElem?_take_of_lt (by omega)] at hv
  rw [List.getElem?_map]
  exact hv
set_option linter.unusedSimpArgs false in
set_option maxRecDepth 20000 in
set_option maxHeartbeats 4000000 in
theorem range_any (h : DictM w B a g mb hv gs S L f) (hg : GoodD gs L) (s t : ByteArray) :
    Calls Tryz.prog 16 #[wptr g, .string s, .string t] w (RangePost w (rangeL gs L s t) (rangeE gs s t)) := by
  have hv1 := valid_any h
  have hce := fun W (hb : Below w.heap.size w W) => (h.below hb).cells
  have hke := fun W (hb : Below w.heap.size w W) u => dkey_any (h.below hb) u
  have hse := fun W (hb : Below w.heap.size w W) u (hu : keyOk gs u) => search_any (h.below hb) hg u hu
  obtain ⟨A, c, rfl, hc1, hc2, hrs⟩ := h.heads
  have har := fun W (hb : Below w.heap.size w W) A n c hs hr hn hz => articles_any (h.below hb) hg A n c hs hr hn hz
  have hlen := hg.len
  have hbk := Blk.new w 9 #[.string s, .string t]
  have hbw : Below w.heap.size w (w.alloc (.cells #[.string s, .string t] 9)) := (Below.refl _ _).alloc (Nat.le_refl _) _
  have HCE := Lib.hid hce; have HKE := Lib.hid hke; have HSE := Lib.hid hse; have HAR := Lib.hid har; have HRS := Lib.hid hrs; have HG := Lib.hid hg; have HBK := Lib.hid hbk; have HBW := Lib.hid hbw
  clear h hce hke hse hrs har hg hbk hbw
  have hee : ∀ x y, rangeE gs x y = if (readRes gs x).1 = 0 then (readRes gs y).1 else (readRes gs x).1 := fun _ _ => rfl
  have HEE := Lib.hid hee
  clear hee
  go_enter Tryz.func16, Tryz.ntmps16
  go_wp2_with fail
  refine hv1.mono ?_
  rintro e w1 ⟨rfl, rfl⟩
  clear hv1
  go_wp2
  go_loopw [9, 10, 11, 23] (fun _ _ _ i wr => ∃ k : Nat, k ≤ 2 ∧ i = .int .i64 k ∧ (1 ≤ k → keyOk gs s) ∧ (2 ≤ k → keyOk gs t) ∧ Below (w.heap.size + 1) (w.alloc (.cells #[.string s, .string t] 9)) wr) (fun _ _ _ i _ => 2 - (RowKit.intOf i).toNat)
  case atStart => exact ⟨0, by omega, rfl, fun h => absurd h (by omega), fun h => absurd h (by omega), Below.refl _ _⟩
  case round =>
    obtain ⟨k, hk, rfl, h1, h2, hb⟩ := hrel
    have hbw : Below w.heap.size w wr := HBW.out.trans (hb.mono (by omega))
    have hbk := HBK.out.below hb (by omega)
    obtain ⟨z0, z1, z2⟩ := HCE.out wr hbw
    have c0 := hbk.cell 0; have c1 := hbk.cell 1
    simp only [List.getElem?_toArray, List.getElem?_cons_zero, List.getElem?_cons_succ] at c0 c1
    have H1 := Lib.hid h1; have H2 := Lib.hid h2; have HB := Lib.hid hb; have HBW1 := Lib.hid hbw
    clear h1 h2 hb hbw hbk
    rcases (by omega : k = 0 ∨ k = 1 ∨ k = 2) with rfl | rfl | rfl
    · have hkey := HKE.out wr HBW1.out s
      by_cases he : (readRes gs s).1 = 0
      · rw [he] at hkey
        have HE := Lib.hid he
        clear he
        go_wp2_with fail
        refine hkey.mono ?_
        rintro e w2 ⟨⟨v, rfl⟩, hb2⟩
        have HB2 := Lib.hid (HB.out.trans (hb2.mono (by have := HB.out.size; simp at this; omega)))
        clear hb2 hkey
        go_wp2
        go_roundw
        case rel => exact ⟨1, by omega, rfl, fun _ => HE.out, fun h => absurd h (by omega), HB2.out⟩
        case measure => simp [RowKit.intOf]
      · have hr : rangeE gs s t = (readRes gs s).1 := by rw [HEE.out, if_neg he]
        have hl : rangeL gs L s t = [] := by unfold rangeL; rw [if_neg (by rw [hr]; exact he)]
        have HRR := Lib.hid hr; have HLL := Lib.hid hl
        have heI : ((readRes gs s).1 == 0) = false := beq_false_of_ne he
        generalize (readRes gs s).1 = x at *
        clear hr hl he
        go_wp2_with fail
        refine hkey.mono ?_
        rintro e w2 ⟨⟨v, rfl⟩, hb2⟩
        have HB2 := Lib.hid (HBW1.out.trans (hb2.mono HBW1.out.size))
        clear hb2 hkey
        go_wp2
        go_ret2
        show RangePost w (rangeL gs L s t) (rangeE gs s t) _ _
        rw [HRR.out, HLL.out]
        exact range_nil _ HB2.out
    · have hkey := HKE.out wr HBW1.out t
      by_cases he : (readRes gs t).1 = 0
      · rw [he] at hkey
        have HE := Lib.hid he
        clear he
        go_wp2_with fail
        refine hkey.mono ?_
        rintro e w2 ⟨⟨v, rfl⟩, hb2⟩
        have HB2 := Lib.hid (HB.out.trans (hb2.mono (by have := HB.out.size; simp at this; omega)))
        clear hb2 hkey
        go_wp2
        go_roundw
        case rel => exact ⟨2, by omega, rfl, fun _ => H1.out (by omega), fun _ => HE.out, HB2.out⟩
        case measure => simp [RowKit.intOf]
      · have hr : rangeE gs s t = (readRes gs t).1 := by rw [HEE.out, if_pos (show (readRes gs s).1 = 0 from H1.out (by omega))]
        have hl : rangeL gs L s t = [] := by unfold rangeL; rw [if_neg (by rw [hr]; exact he)]
        have HRR := Lib.hid hr; have HLL := Lib.hid hl
        have heI : ((readRes gs t).1 == 0) = false := beq_false_of_ne he
        generalize (readRes gs t).1 = x at *
        clear hr hl he
        go_wp2_with fail
        refine hkey.mono ?_
        rintro e w2 ⟨⟨v, rfl⟩, hb2⟩
        have HB2 := Lib.hid (HBW1.out.trans (hb2.mono HBW1.out.size))
        clear hb2 hkey
        go_wp2
        go_ret2
        show RangePost w (rangeL gs L s t) (rangeE gs s t) _ _
        rw [HRR.out, HLL.out]
        exact range_nil _ HB2.out
    · have hs := H1.out (by omega)
      have ht := H2.out (by omega)
      have hr : rangeE gs s t = 0 := rangeE_zero.2 ⟨hs, ht⟩
      have hl : rangeL gs L s t = (((headsL L).take (upTo gs L t)).drop (placeT gs L s)).map (artOf L) := by unfold rangeL; rw [if_pos hr, range_heads HG.out]
      have HRR := Lib.hid hr; have HLL := Lib.hid hl
      have h1 := HSE.out wr HBW1.out s hs
      have h2 := fun W hb => HSE.out W hb t ht
      have hup := upTo_le HG.out ht
      have hut : upTo gs L t = placeT gs L t + if thereB L t = true then 1 else 0 := rfl
      have H2S := Lib.hid h2
      clear hs ht hr hl h2 c0 c1
      generalize placeT gs L s = i at *
      generalize hj : placeT gs L t = j at *
      generalize upTo gs L t = u at *
      go_wp2_with fail
      refine h1.mono ?_
      rintro e w2 ⟨rfl, hb2⟩
      have hbw2 := HBW1.out.trans (hb2.mono HBW1.out.size)
      obtain ⟨z0, z1, z2⟩ := HCE.out w2 hbw2
      have h2 := H2S.out w2 hbw2
      have HB2 := Lib.hid hbw2
      clear h1 hb2 hbw2
      go_wp2_with fail
      refine h2.mono ?_
      rintro e w3 ⟨rfl, hb3⟩
      have hbw3 := HB2.out.trans (hb3.mono HB2.out.size)
      obtain ⟨z0, z1, z2⟩ := HCE.out w3 hbw3
      have HB3 := Lib.hid hbw3
      clear h2 hb3 hbw3
      have hrd3 : ReadS w3 w3.heap.size A L.length (headsL L) := show ReadS _ _ _ _ _ from (Reads.below HRS.out HB3.out).more HB3.out.size
      have hmem : ∀ x ∈ ((headsL L).take u).drop i, x.size ≤ 64 := fun x hx => HG.out.hsize x (List.mem_of_mem_take (List.mem_of_mem_drop hx))
      have HRD := Lib.hid hrd3; have HMM := Lib.hid hmem
      clear hrd3 hmem
      cases htb : thereB L t with
      | false =>
        rw [htb, if_neg (by decide), Nat.add_zero] at hut
        subst hut
        clear htb
        by_cases hlt : u < i
        · have hltI : (u : Int) < (i : Int) := by omega
          go_wp2
          go_ret2
          show RangePost w (rangeL gs L s t) (rangeE gs s t) _ _
          rw [HRR.out, HLL.out, List.drop_of_length_le (by rw [List.length_take]; omega)]
          exact range_nil _ HB3.out
        · have hltI : ¬ (u : Int) < (i : Int) := by omega
          have hiu : (i : Int) ≤ (u : Int) := by omega
          have huc : (u : Int) ≤ (c : Int) := by omega
          go_wp2_with fail
          all_goals
            refine (HAR.out w3 HB3.out _ (u - i) _ _ (readS_cut HRD.out (by omega) hup (fun h => by first | rfl | (exfalso; omega))) (by omega) HMM.out).mono ?_
            rintro e w4 ⟨v, rfl, hv, hb4⟩
            have HV := Lib.hid (hv.keep (S' := NewS w w4) (fun b hb => ⟨Nat.le_trans HB3.out.size hb.1, hb.2⟩) (fun _ _ => rfl)); have HB4 := Lib.hid (HB3.out.trans (hb4.mono HB3.out.size))
            clear hv hb4
            go_wp2
            go_ret2
            show RangePost w (rangeL gs L s t) (rangeE gs s t) _ _
            rw [HRR.out, HLL.out]
            exact ⟨_, rfl, HV.out, HB4.out⟩
      | true =>
        rw [htb, if_pos rfl] at hut
        clear htb
        subst hut
        by_cases hlt : j + 1 < i
        · have hltI : (j : Int) + 1 < (i : Int) := by omega
          go_wp2
          go_ret2
          show RangePost w (rangeL gs L s t) (rangeE gs s t) _ _
          rw [HRR.out, HLL.out, List.drop_of_length_le (by rw [List.length_take]; omega)]
          exact range_nil _ HB3.out
        · have hltI : ¬ (j : Int) + 1 < (i : Int) := by omega
          have hiu : (i : Int) ≤ (j : Int) + 1 := by omega
          have huc : (j : Int) + 1 ≤ (c : Int) := by omega
          go_wp2_with fail
          all_goals
            refine (HAR.out w3 HB3.out _ (j + 1 - i) _ _ (readS_cut HRD.out (by omega) hup (fun h => by first | rfl | (exfalso; omega))) (by omega) HMM.out).mono ?_
            rintro e w4 ⟨v, rfl, hv, hb4⟩
            have HV := Lib.hid (hv.keep (S' := NewS w w4) (fun b hb => ⟨Nat.le_trans HB3.out.size hb.1, hb.2⟩) (fun _ _ => rfl)); have HB4 := Lib.hid (HB3.out.trans (hb4.mono HB3.out.size))
            clear hv hb4
            go_wp2
            go_ret2
            show RangePost w (rangeL gs L s t) (rangeE gs s t) _ _
            rw [HRR.out, HLL.out]
            exact ⟨_, rfl, HV.out, HB4.out⟩
end
end Go.Proofs.YtgkpoopiamicnaaGreatDoor
