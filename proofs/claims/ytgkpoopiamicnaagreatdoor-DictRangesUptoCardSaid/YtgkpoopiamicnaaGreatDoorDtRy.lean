/-
  Layer 40: DictRanges: the walk. Conditions: letters, articles and texts that are read.
-/
import Derived.Test.YtgkpoopiamicnaaGreatDoorDtRx
namespace Go.Proofs.YtgkpoopiamicnaaGreatDoor
open Go.RowKit Go.Lib

set_option linter.unusedSimpArgs false in
set_option maxRecDepth 20000 in
set_option maxHeartbeats 8000000 in
theorem dictRanges_law (w : World) (A1 : Option Addr) (n1 c1 : Nat) (ss : List ByteArray) (hr : ReadS w w.heap.size A1 n1 ss) (hn : n1 ≤ 1048576) (hss : ∀ s ∈ ss, s.size ≤ 1048576)
    (v2 : Value) (l : List Art) (hl : ArtsF w (fun b => b < w.heap.size) l v2) (hok : ∀ x ∈ l, ArtOk x) (hll : l.length ≤ 1048576) (s t : ByteArray) (hs : s.size ≤ 1048576) (ht : t.size ≤ 1048576) :
    Calls Tryz.prog 3 #[.slice A1 n1 c1, v2, .agg #[.string s, .string t]] w (BoolPost w true) := by
  have hat := fun (i : Nat) A n c (e : v2 = .slice A n c) (hi : i < l.length) => art_at (e ▸ hl) hi
  obtain ⟨A2, c2, rfl, hc2, hc3⟩ := hl.form
  have HAT := Lib.hid (fun i hi => hat i A2 l.length c2 rfl hi)
  have hlen1 : ss.length = n1 := hr.len
  obtain ⟨wA, hwA⟩ : ∃ W, w.alloc (.cells #[.string s, .string t] 24) = W := ⟨_, rfl⟩
  have hbA : Below w.heap.size w wA := hwA ▸ (Below.refl _ _).alloc (Nat.le_refl _) _
  have hbx : Blk wA w.heap.size 24 #[.string s, .string t] := hwA ▸ Blk.new w _ _
  have hrA : ∀ W, Below wA.heap.size wA W → ReadS W W.heap.size A1 n1 ss := fun W hW => show ReadS _ _ _ _ _ from (Reads.below hr (hbA.trans (hW.mono hbA.size))).more (hbA.trans (hW.mono hbA.size)).size
  have hcx : ∀ W, Below wA.heap.size wA W → W.cell? ⟨w.heap.size, 0, none⟩ = some (.string s) ∧ W.cell? ⟨w.heap.size, 1, none⟩ = some (.string t) := fun W hW => by
    have y := hbx.below hW hbx.lt
    exact ⟨y.cell 0, y.cell 1⟩
  have HRA := Lib.hid hrA; have HCX := Lib.hid hcx; have HBA := Lib.hid hbA; have HOK := Lib.hid hok; have HSS := Lib.hid hss; have HL1 := Lib.hid hlen1
  obtain ⟨n2, hn2⟩ : ∃ n, l.length = n := ⟨_, rfl⟩
  have HN2 := Lib.hid hn2
  rw [hn2] at hll ⊢
  clear hat hl hr hss hok hlen1 hbA hbx hrA hcx hn2 hc2 hc3
  go_enter Tryz.func3, Tryz.ntmps3
  go_upto_region 1 with fail
  clear hwA
  by_cases h40 : n1 ≤ 40 ∧ n2 ≤ 30
  case neg =>
    have hI : (40 : Int) < (n1 : Int) ∨ (¬ (40 : Int) < (n1 : Int) ∧ (30 : Int) < (n2 : Int)) := by omega
    have hwk := works_any wA
    clear h40
    rcases hI with hI | ⟨hI, hJ⟩ <;>
    · go_wp2_with fail
      refine hwk.mono ?_
      rintro e w2 ⟨rfl, hb2⟩
      have HB2 := Lib.hid (HBA.out.trans (hb2.mono HBA.out.size))
      clear hb2 hwk
      go_wp2
      go_ret
      exact ⟨rfl, HB2.out⟩
  case pos =>
  obtain ⟨h40, h30⟩ := h40
  have h40I : ¬ (40 : Int) < (n1 : Int) := by omega
  have h30I : ¬ (30 : Int) < (n2 : Int) := by omega
  have hN1 := newM_any A1 n1 c1 1048576 ss wA (HRA.out wA (Below.refl _ _)) (by omega) (by omega) (by omega) HSS.out
  go_wp2_with fail
  refine hN1.mono ?_
  rintro e w1 ⟨hbad1, hgood1, hb1⟩
  have hts : totalS ss ≤ 41943040 := by
    have h1 := totalM_le ss 1048576 HSS.out
    rw [HL1.out] at h1
    omega
  have hN2 := refNewM_any A1 n1 c1 ss w1 (HRA.out w1 hb1) (by omega) hts
  have HB1 := Lib.hid hb1
  clear hN1 hts hb1
  by_cases herr : newErr ss = 0
  case neg =>
    obtain rfl := hbad1 herr
    clear hbad1 hgood1
    have hne : newErr ss ≠ 0 := herr
    clear herr
    generalize hke : newErr ss = ke at *
    go_wp2_with fail
    refine hN2.mono ?_
    rintro e w2 ⟨hbad2, -, hb2⟩
    have HB2 := Lib.hid (HB1.out.trans (hb2.mono HB1.out.size))
    obtain rfl := hbad2 (by rw [hke]; exact hne)
    rw [hke]
    have hd := dnew_nil (w := w2) (p := .pointer none) (.inl rfl)
    clear hbad2 hb2 hN2 hne
    go_wp2_with fail
    refine hd.mono ?_
    rintro e w3 ⟨rfl, hb3⟩
    have HB3 := Lib.hid (HB2.out.trans (hb3.mono HB2.out.size))
    have hrn := rnew_nil40 (w := w3)
    clear hd hb3
    go_wp2_with fail
    refine hrn.mono ?_
    rintro e w4 ⟨rfl, hb4⟩
    have HB4 := Lib.hid (HB3.out.trans (hb4.mono HB3.out.size))
    clear hrn hb4
    go_wp2
    go_loopw [15] (fun i wr => ∃ k : Nat, k ≤ n2 ∧ i = .int .i64 k ∧ Below wA.heap.size wA wr) (fun i _ => n2 - (RowKit.intOf i).toNat)
    case atStart => exact ⟨0, by omega, rfl, HB4.out⟩
    case round =>
      obtain ⟨k, hk, rfl, hb⟩ := hrel
      have HB := Lib.hid hb
      clear hb
      by_cases hlt : k < n2
      · have hkI : (k : Int) < (n2 : Int) := by omega
        have hkl : k < l.length := by rw [HN2.out]; exact hlt
        obtain ⟨ad, X1, y1, X2, y2, X3, y3, rfl, -, -, hrun⟩ := HAT.out k hkl
        have hq : ∀ W, Below wA.heap.size wA W → ArtCells W (ad.add (k * 4)) l[k] X1 y1 X2 y2 X3 y3 := fun W hW => hrun W (keepS_below (HBA.out.trans (hW.mono HBA.out.size)) fun b hb => hb)
        obtain ⟨q0, q1, q2, q3⟩ := hq wr HB.out
        unfold ArtCells at hq
        have HQ := Lib.hid hq
        clear hrun hq
        generalize l[k].head = x0 at *
        generalize l[k].word.length = x1 at *
        generalize l[k].texts.length = x2 at *
        generalize l[k].see.length = x3 at *
        have hp := dput_nil (w := wr) (p := .pointer none) (.inl rfl) (.string x0) (.slice X1 x1 y1) (.slice X2 x2 y2) (.slice X3 x3 y3)
        go_wp2_with fail
        refine hp.mono ?_
        rintro e w5 ⟨rfl, hb5⟩
        have HB5 := Lib.hid (HB.out.trans (hb5.mono HB.out.size))
        have hp2 := rput_nil40 (w := w5) (.string x0) (.slice X1 x1 y1) (.slice X2 x2 y2) (.slice X3 x3 y3)
        clear hp hb5 q0 q1 q2 q3
        obtain ⟨q0, q1, q2, q3⟩ := HQ.out w5 HB5.out
        go_wp2_with fail
        refine hp2.mono ?_
        rintro e w6 ⟨rfl, hb6⟩
        have HB6 := Lib.hid (HB5.out.trans (hb6.mono HB5.out.size))
        clear hp2 hb6 q0 q1 q2 q3
        go_wp2
        go_roundw
        case rel => exact ⟨k + 1, by omega, by go_num, HB6.out⟩
        case measure => simp [RowKit.intOf]; omega
      · obtain rfl : n2 = k := by omega
        obtain ⟨x0, x1⟩ := HCX.out wr HB.out
        have hg1 := drange_nil (w := wr) (p := .pointer none) (.inl rfl) s t
        go_wp2_with fail
        refine hg1.mono ?_
        rintro e w5 ⟨rfl, hb5⟩
        have HB5 := Lib.hid (HB.out.trans (hb5.mono HB.out.size))
        have hg2 := rrange_nil40 (w := w5) s t
        clear hg1 hb5 x0 x1
        obtain ⟨x0, x1⟩ := HCX.out w5 HB5.out
        go_wp2_with fail
        refine hg2.mono ?_
        rintro e w6 ⟨rfl, hb6⟩
        have HB6 := Lib.hid (HB5.out.trans (hb6.mono HB5.out.size))
        have hae := articles_eq w6 [] _ _ (fun _ => False) (fun _ => False) (slF_nil _ _ _ _) (slF_nil _ _ _ _) (fun _ h => h.elim) (fun _ h => h.elim)
        clear hg2 hb6 x0 x1
        go_wp2_with fail
        refine hae.mono ?_
        rintro e w7 ⟨rfl, hb7⟩
        have HB7 := Lib.hid (HB6.out.trans (hb7.mono HB6.out.size))
        have hwk := works_any w7
        clear hae hb7
        go_wp2_with fail
        refine hwk.mono ?_
        rintro e w8 ⟨rfl, hb8⟩
        have HB8 := Lib.hid (HBA.out.trans ((HB7.out.trans (hb8.mono HB7.out.size)).mono HBA.out.size))
        clear hwk hb8
        go_wp2
        go_ret
        exact ⟨rfl, HB8.out⟩
  case pos =>
  obtain ⟨ga, rfl, hA, hG⟩ := hgood1 herr
  have HA := Lib.hid hA; have HG := Lib.hid hG
  clear hbad1 hgood1 hA hG
  go_wp2_with fail
  refine hN2.mono ?_
  rintro e w2 ⟨-, hgood2, hb2⟩
  obtain ⟨gr, rfl, hRA⟩ := hgood2 herr
  have hA2 := HA.out.below hb2
  have hdn := dnew_at ga w2 hA2 HG.out
  have HB2 := Lib.hid (HB1.out.trans (hb2.mono HB1.out.size))
  have HSM := Lib.hid (smallG_of (ss := ss) (by rw [HL1.out]; omega) herr)
  have HRA2 := Lib.hid hRA
  clear hgood2 hb2 hN2 hRA hA2 herr
  generalize groupsB ss = gs at *
  go_wp2_with fail
  refine hdn.mono ?_
  rintro e w3 ⟨v, D, rfl, hd3, hb3⟩
  obtain ⟨g, rfl⟩ := hd3.dict.ptr
  have hrn := rnew_any40 gr gs w3 w2.heap.size hb3.size (fun W hW => HRA2.out.below (hb3.trans (hW.mono (Nat.le_refl _)))) HSM.out
  have HB3 := Lib.hid (HB2.out.trans (hb3.mono HB2.out.size)); have HD3 := Lib.hid hd3
  clear hdn hb3 hd3
  go_wp2_with fail
  refine hrn.mono ?_
  rintro e w4 ⟨g2, hg2, rfl, hr4, hb4⟩
  have hbr4 : BesideR w4 w2.heap.size g2 gs [] D := ⟨_, _, _, hr4, fun h => by have := (HD3.out.lt g2 h).2; omega, fun _ h => h.elim⟩
  have hd4 := HD3.out.below hb4
  have HB4 := Lib.hid (HB3.out.trans (hb4.mono HB3.out.size)); have HR4 := Lib.hid hbr4; have HD4 := Lib.hid hd4
  have hB2 : wA.heap.size ≤ w2.heap.size := HB2.out.size
  have HBS := Lib.hid hB2
  clear hrn hb4 hr4 hbr4 hd4 hB2 hg2
  go_wp2
  go_loopw [15] (fun i wr => ∃ (k : Nat) (D : Nat → Prop), k ≤ n2 ∧ i = .int .i64 k ∧ DictAt wr w2.heap.size (wptr g) gs (putAll gs (l.take k)) D ∧ BesideR wr w2.heap.size g2 gs (putAll gs (l.take k)) D ∧ Below wA.heap.size wA wr) (fun i _ => n2 - (RowKit.intOf i).toNat)
  case atStart => exact ⟨0, D, by omega, rfl, HD4.out, HR4.out, HB4.out⟩
  case round =>
    obtain ⟨k, D, hk, rfl, hd, hbr, hb⟩ := hrel
    have HD := Lib.hid hd; have HBR := Lib.hid hbr; have HB := Lib.hid hb
    clear hd hbr hb HD4 HR4 HB4 HD3 HB3
    by_cases hlt : k < n2
    · have hkI : (k : Int) < (n2 : Int) := by omega
      have hkl : k < l.length := by rw [HN2.out]; exact hlt
      obtain ⟨ad, X1, y1, X2, y2, X3, y3, rfl, hx, -, hrun⟩ := HAT.out k hkl
      have hq : ∀ W, Below wA.heap.size wA W → ArtCells W (ad.add (k * 4)) l[k] X1 y1 X2 y2 X3 y3 ∧ ArtF W (fun b => b < w.heap.size) l[k] [.string l[k].head, .slice X1 l[k].word.length y1, .slice X2 l[k].texts.length y2, .slice X3 l[k].see.length y3] := fun W hW =>
        ⟨hrun W (keepS_below (HBA.out.trans (hW.mono HBA.out.size)) fun b hb => hb), hx.keep (fun _ h => h) (keepS_below (HBA.out.trans (hW.mono HBA.out.size)) fun b hb => hb)⟩
      have htk := putAll_take (gs := gs) hkl
      have hok := HOK.out _ (List.getElem_mem hkl)
      unfold ArtCells at hq
      have HQ := Lib.hid hq; have HTK := Lib.hid htk; have HOKX := Lib.hid hok
      clear hrun hx hq htk hok
      generalize l[k] = x at *
      generalize putAll gs (l.take k) = L at *
      obtain ⟨⟨q0, q1, q2, q3⟩, hxf⟩ := HQ.out wr HB.out
      have hp := put_at HD.out x _ (fun b => b < w.heap.size) hxf (fun b hb => ⟨Nat.lt_of_lt_of_le hb (HBA.out.trans (HB.out.mono HBA.out.size)).size, fun h => by have h1 := (HD.out.lt b h).1; have h2 := HBS.out; have h3 := HBA.out.size; omega⟩) HOKX.out
      clear hxf
      go_wp2_with fail
      refine hp.mono ?_
      rintro e w5 ⟨rfl, D5, hd5, hD5, hc5⟩
      have hb5 : Below wA.heap.size wr w5 := hc5.below (fun b hb => Nat.le_trans HBS.out (HD.out.lt b hb).1) HB.out.size
      have hbr5 := HBR.out.turn hc5 (fun b hb => (HD.out.lt b hb).1) hD5
      have HB5 := Lib.hid (HB.out.trans hb5); have HD5 := Lib.hid hd5; have HBR5 := Lib.hid hbr5
      have HGD := Lib.hid HD.out.dict.good
      clear hp hd5 hD5 hc5 hb5 hbr5 q0 q1 q2 q3
      obtain ⟨⟨q0, q1, q2, q3⟩, hxf⟩ := HQ.out w5 HB5.out
      have hp2 := HBR5.out.put_ HGD.out (fun b hb => (HD5.out.lt b hb).2) x _ (fun b => b < w.heap.size) hxf (fun b hb => Nat.lt_of_lt_of_le hb (HBA.out.trans (HB5.out.mono HBA.out.size)).size) HOKX.out
      clear hxf
      go_wp2_with fail
      refine hp2.mono ?_
      rintro e w6 ⟨rfl, hbr6, hc6⟩
      have hg2B : w2.heap.size ≤ g2 := by
        obtain ⟨a, lv, S, h1, -⟩ := HBR.out
        exact h1.low.2
      have hb6 : Below wA.heap.size w5 w6 := hc6.below (fun b hb => by rw [hb]; exact Nat.le_trans HBS.out hg2B) HB5.out.size
      have hd6 := HD5.out.chg hc6 (fun b hb => by rw [hb]; exact hg2B) (fun b hb e => by
        obtain ⟨a, lv, S, -, h2, -⟩ := HBR5.out
        exact h2 (e ▸ hb))
      have HB6 := Lib.hid (HB5.out.trans hb6); have HD6 := Lib.hid hd6; have HBR6 := Lib.hid hbr6
      clear hp2 hbr6 hc6 hb6 hd6 hg2B q0 q1 q2 q3
      go_wp2
      go_roundw
      case rel => exact ⟨k + 1, D5, by omega, by go_num, by rw [HTK.out]; exact HD6.out, by rw [HTK.out]; exact HBR6.out, HB6.out⟩
      case measure => simp [RowKit.intOf]; omega
    · obtain rfl : n2 = k := by omega
      generalize putAll gs (l.take n2) = L at *
      obtain ⟨x0, x1⟩ := HCX.out wr HB.out
      have hr1 : Calls Tryz.prog 16 #[wptr g, .string s, .string t] wr (RangePost wr (rangeL gs L s t) (rangeE gs s t)) := by
        obtain ⟨a, g', mb, hv, S, f, e, h1, h2⟩ := HD.out.dict
        rw [e]
        exact range_any h1 h2 s t
      have HGD := Lib.hid HD.out.dict.good
      obtain ⟨rl, hrl⟩ : ∃ x, rangeL gs L s t = x := ⟨_, rfl⟩
      obtain ⟨re, hre⟩ : ∃ x, rangeE gs s t = x := ⟨_, rfl⟩
      have HRL := Lib.hid hrl; have HRE := Lib.hid hre
      rw [hrl, hre] at hr1
      clear hrl hre
      go_wp2_with fail
      refine hr1.mono ?_
      rintro e w5 ⟨v5, rfl, hv5, hb5⟩
      have HB5 := Lib.hid (HB.out.trans (hb5.mono HB.out.size))
      have hr2 : Calls Tryz.prog 17 #[wptr g2, .string s, .string t] w5 (RangePost w5 rl re) := by
        obtain ⟨a, lv, S, h1, -⟩ := HBR.out.below hb5
        have h := rrange_any h1 HGD.out s t (by omega) (by omega)
        rwa [HRL.out, HRE.out] at h
      have HV5 := Lib.hid hv5
      clear hr1 hv5 hb5 x0 x1
      obtain ⟨x0, x1⟩ := HCX.out w5 HB5.out
      obtain ⟨A5, c5, rfl, -, -⟩ := HV5.out.form
      go_wp2_with fail
      refine hr2.mono ?_
      rintro e w6 ⟨v6, rfl, hv6, hb6⟩
      have HB6 := Lib.hid (HB5.out.trans (hb6.mono HB5.out.size))
      have hae := articles_eq w6 rl _ v6 _ _ (HV5.out.keep (S' := fun b => b < w6.heap.size) (fun b hb => Nat.lt_of_lt_of_le hb.2 hb6.size) (keepS_below hb6 fun b hb => hb.2)) hv6 (fun b hb => hb) (fun b hb => hb.2)
      clear hr2 hv6 hb6 x0 x1
      go_wp2_with fail
      refine hae.mono ?_
      rintro e w7 ⟨rfl, hb7⟩
      have HB7 := Lib.hid (HB6.out.trans (hb7.mono HB6.out.size))
      have hwk := works_any w7
      clear hae hb7
      go_wp2_with fail
      refine hwk.mono ?_
      rintro e w8 ⟨rfl, hb8⟩
      have HB8 := Lib.hid (HBA.out.trans ((HB7.out.trans (hb8.mono HB7.out.size)).mono HBA.out.size))
      clear hwk hb8
      go_wp2
      go_ret
      exact ⟨rfl, HB8.out⟩
end Go.Proofs.YtgkpoopiamicnaaGreatDoor
