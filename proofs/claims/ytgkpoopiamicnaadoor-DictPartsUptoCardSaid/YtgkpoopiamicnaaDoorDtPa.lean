/-
  Layer 40: DictParts: the walk. Conditions: letters and articles that are read, a text of the reach.
-/
import Derived.Test.YtgkpoopiamicnaaDoorDtRg
import Derived.Test.YtgkpoopiamicnaaDoorZaaq
namespace Go.Proofs.YtgkpoopiamicnaaDoor
open Go.RowKit Go.Lib

section
variable {α : Type} {F : World → (Nat → Prop) → α → List Value → Prop} {k : Nat} {w : World} {S : Nat → Prop} {l : List α}
theorem SlF.take_ {A : Option Addr} {n c : Nat} (h : SlF F k w S l (.slice A n c)) (hk : ∀ x cs, F w S x cs → cs.length = k) {m : Nat} (hm : m ≤ l.length) : SlF F k w S (l.take m) (.slice A m c) := by
  obtain ⟨A', c', xs, e, h1, h2, h3⟩ := h
  injection e with e1 e2 e3
  subst e1 e3
  have hl : (l.take m).length = m := by rw [List.length_take]; omega
  have hx := h2.1
  refine ⟨A, c, xs.take (m * k), by rw [hl], ⟨by omega, h1.2⟩, ⟨?_, fun hn => ?_⟩, RowsF.take_ hk m h3⟩
  · rw [hl, List.length_take, hx]
    have : m * k ≤ l.length * k := Nat.mul_le_mul_right k hm
    omega
  · obtain ⟨ad, e, hb, hc⟩ := h2.2 (by omega)
    refine ⟨ad, e, hb, fun j u hu => hc j u ?_⟩
    have hj := (List.getElem?_eq_some_iff.1 hu).1
    rw [List.length_take] at hj
    rw [List.getElem?_take_of_lt (by omega)] at hu
    exact hu
theorem SlF.drop_ {A A' : Option Addr} {n c c' : Nat} (h : SlF F k w S l (.slice A n c)) (hk : ∀ x cs, F w S x cs → cs.length = k) {m : Nat} (hm : m ≤ l.length) (hA : m < l.length → A' = A.map (·.add (m * k))) (hc1 : n - m ≤ c') (hc2 : c' ≤ maxLen) : SlF F k w S (l.drop m) (.slice A' (n - m) c') := by
  obtain ⟨A2, c2, xs, e, h1, h2, h3⟩ := h
  injection e with e1 e2 e3
  subst e1 e2 e3
  have hl : (l.drop m).length = l.length - m := by rw [List.length_drop]
  have hx := h2.1
  refine ⟨A', c', xs.drop (m * k), by rw [hl], ⟨by omega, hc2⟩, ⟨?_, fun hn => ?_⟩, RowsF.drop_ hk m h3⟩
  · rw [hl, List.length_drop, hx, Nat.sub_mul]
  · obtain ⟨ad, rfl, hb, hc⟩ := h2.2 (by omega)
    rw [hA (by omega)]
    refine ⟨ad.add (m * k), rfl, by rw [block_of_add]; exact hb, fun j u hu => ?_⟩
    rw [add_of_add]
    rw [List.getElem?_drop] at hu
    exact hc _ _ hu
end
theorem range_in {w : World} {B : Nat} {v : Value} {gs : Grps} {L : List Art} (h : DictIn w B v gs L) (s t : ByteArray) : Calls Tryd.prog 22 #[v, .string s, .string t] w (RangePost w (rangeL gs L s t) (rangeE gs s t)) := by
  obtain ⟨a, g, mb, hv, S, f, rfl, h1, h2⟩ := h
  exact range_any h1 h2 s t
set_option linter.unusedSimpArgs false in
set_option maxRecDepth 20000 in
set_option maxHeartbeats 8000000 in
theorem dictParts_law (w : World) (A1 : Option Addr) (n1 c1 : Nat) (ss : List ByteArray) (hr : ReadS w w.heap.size A1 n1 ss) (hn : n1 ≤ 1048576) (hss : ∀ s ∈ ss, s.size ≤ 1048576)
    (v2 : Value) (l : List Art) (hl : ArtsF w (fun b => b < w.heap.size) l v2) (hok : ∀ x ∈ l, ArtOk x) (hll : l.length ≤ 1048576) (s : ByteArray) (hs : s.size ≤ 140737488351232) :
    Calls Tryd.prog 6 #[.slice A1 n1 c1, v2, .string s] w (BoolPost w true) := by
  obtain ⟨A2, c2, rfl, hc2, hc3⟩ := hl.form
  have hm1 := made_at w A1 n1 c1 1048576 ss hr (by omega) (by omega) (by omega) hss A2 l.length c2 l _ hl (fun b h => h) hok (by omega)
  clear hl hok hr hss hc2 hc3
  generalize l.length = n2 at *
  go_enter Tryd.func6, Tryd.ntmps6
  go_wp2_with fail
  refine hm1.mono ?_
  rintro e w1 ⟨hbad, hgood, hb1⟩
  have HB1 := Lib.hid hb1
  have hwk := works_any w1
  by_cases h40 : n1 ≤ 40
  case neg =>
    have h40I : (40 : Int) < (n1 : Int) := by omega
    have hex : ∃ v, e = .returned v := by
      by_cases herr : newErr ss = 0
      · obtain ⟨g, B, D, e1, -⟩ := hgood herr; exact ⟨_, e1⟩
      · exact ⟨_, hbad herr⟩
    obtain ⟨v, rfl⟩ := hex
    clear hm1 hbad hgood hb1
    go_wp2_with fail
    refine hwk.mono ?_
    rintro e w2 ⟨rfl, hb2⟩
    have HB2 := Lib.hid (HB1.out.trans (hb2.mono HB1.out.size))
    clear hb2 hwk
    go_wp2
    go_ret
    exact ⟨rfl, HB2.out⟩
  case pos =>
  have h40I : ¬ (40 : Int) < (n1 : Int) := by omega
  by_cases h30 : n2 ≤ 30
  case neg =>
    have h30I : (30 : Int) < (n2 : Int) := by omega
    have hex : ∃ v, e = .returned v := by
      by_cases herr : newErr ss = 0
      · obtain ⟨g, B, D, e1, -⟩ := hgood herr; exact ⟨_, e1⟩
      · exact ⟨_, hbad herr⟩
    obtain ⟨v, rfl⟩ := hex
    clear hm1 hbad hgood hb1
    go_wp2_with fail
    refine hwk.mono ?_
    rintro e w2 ⟨rfl, hb2⟩
    have HB2 := Lib.hid (HB1.out.trans (hb2.mono HB1.out.size))
    clear hb2 hwk
    go_wp2
    go_ret
    exact ⟨rfl, HB2.out⟩
  case pos =>
  have h30I : ¬ (30 : Int) < (n2 : Int) := by omega
  by_cases herr : newErr ss = 0
  case neg =>
    obtain rfl := hbad herr
    clear hm1 hbad hgood hb1
    go_wp2_with fail
    refine hwk.mono ?_
    rintro e w2 ⟨rfl, hb2⟩
    have HB2 := Lib.hid (HB1.out.trans (hb2.mono HB1.out.size))
    clear hb2 hwk
    go_wp2
    go_ret
    exact ⟨rfl, HB2.out⟩
  case pos =>
  obtain ⟨g, B, D, rfl, hB, hd⟩ := hgood herr
  have hdi := hd.dict
  clear hm1 hbad hgood hb1 hd hwk
  generalize groupsB ss = gs at *
  generalize putAll gs l = L at *
  have hgd := hdi.good
  have HD := Lib.hid hdi; have HG := Lib.hid hgd
  have hrg := range_in hdi ⟨#[]⟩ s
  have hlen := hgd.len
  by_cases hks : (readRes gs s).1 = 0
  case neg =>
    have hre : rangeE gs ⟨#[]⟩ s = (readRes gs s).1 := rangeE_empty
    have hrl : rangeL gs L ⟨#[]⟩ s = [] := by unfold rangeL; rw [if_neg (by rw [hre]; exact hks)]
    rw [hre, hrl] at hrg
    have hksI : ((readRes gs s).1 == 0) = false := beq_false_of_ne hks
    generalize (readRes gs s).1 = x at *
    clear hre hrl hdi hgd hks
    go_wp2_with fail
    refine hrg.mono ?_
    rintro e w2 ⟨v, rfl, hv, hb2⟩
    obtain ⟨A', c', rfl, -, -⟩ := hv.form
    have HB2 := Lib.hid (HB1.out.trans (hb2.mono HB1.out.size))
    have hwk := works_any w2
    clear hrg hv hb2
    go_wp2_with fail
    refine hwk.mono ?_
    rintro e w3 ⟨rfl, hb3⟩
    have HB3 := Lib.hid (HB2.out.trans (hb3.mono HB2.out.size))
    clear hb3 hwk
    go_wp2
    go_ret
    exact ⟨rfl, HB3.out⟩
  case pos =>
  have hre : rangeE gs ⟨#[]⟩ s = 0 := by rw [rangeE_empty]; exact hks
  rw [hre, range_low hgd hks] at hrg
  have hup := upTo_le hgd hks
  have hut : upTo gs L s = placeT gs L s + if thereB L s = true then 1 else 0 := rfl
  have hta := fun h => there_at hgd hks h
  have hhi := fun i (hi : i + 1 = L.length) => range_high hgd hks hi
  have hhe := fun i (hi : i < L.length) => rangeE_high hgd hks hi
  have HTA := Lib.hid hta; have HHI := Lib.hid hhi; have HHE := Lib.hid hhe; have HUT := Lib.hid hut
  clear hre hdi hgd hks hta hhi hhe hut
  obtain ⟨m, hm⟩ : ∃ m, L.length = m := ⟨_, rfl⟩
  have HM := Lib.hid hm
  obtain ⟨n, hnu⟩ : ∃ n, upTo gs L s = n := ⟨_, rfl⟩
  rw [hnu] at hrg hup HUT
  rw [hm] at hup hlen
  have htl : (L.take n).length = n := by rw [List.length_take]; omega
  have HTL := Lib.hid htl
  clear hm hnu htl
  go_wp2_with fail
  refine hrg.mono ?_
  rintro e w2 ⟨vl, rfl, hvl, hb2⟩
  obtain ⟨AL, cL, rfl, hcL1, hcL2⟩ := hvl.form
  have hli := list_in (HD.out.below hb2)
  have HB2 := Lib.hid hb2; have HVL := Lib.hid hvl
  rw [HTL.out] at HVL ⊢
  clear hrg hb2 hvl hcL1 hcL2
  go_wp2_with fail
  refine hli.mono ?_
  rintro e w3 ⟨vm, rfl, hvm, hb3⟩
  obtain ⟨AM, cM, rfl, hcM1, hcM2⟩ := hvm.form
  have hb13 := HB2.out.trans (hb3.mono HB2.out.size)
  have hvl3 : ArtsF w3 (fun b => b < w2.heap.size) (L.take n) (.slice AL n cL) := HVL.out.keep (fun b hb => hb.2) (keepS_below hb3 fun b hb => hb.2)
  have hvm3 : ArtsF w3 (fun b => b < w3.heap.size) L (.slice AM L.length cM) := hvm.keep (fun b hb => hb.2) (fun _ _ => rfl)
  have h32 := hb3.size
  rw [HM.out] at hvm3 hcM1 ⊢
  have hae := articles_eq w3 (L.take n) _ _ _ _ hvl3 (hvm3.take_ (fun _ _ h => h.len) (by rw [HM.out]; exact hup)) (fun b hb => by omega) (fun b hb => hb)
  have HVM := Lib.hid hvm3; have HD3 := Lib.hid (HD.out.below hb13); have HW3 := Lib.hid (HB1.out.trans (hb13.mono HB1.out.size))
  clear hli hvm hb3 hb13 hvl3 hvm3 HVL h32
  have hnI : ¬ (m : Int) < (n : Int) := by omega
  have hncI : (n : Int) ≤ (cM : Int) := by omega
  go_wp2_with fail
  refine hae.mono ?_
  rintro e w4 ⟨rfl, hb4⟩
  have HD4 := Lib.hid (HD3.out.below hb4); have HW4 := Lib.hid (HW3.out.trans (hb4.mono HW3.out.size))
  have hvm4 : ArtsF w4 (fun b => b < w4.heap.size) L (.slice AM m cM) := HVM.out.keep (fun b (hb : b < w3.heap.size) => Nat.lt_of_lt_of_le hb hb4.size) (keepS_below hb4 fun b hb => hb)
  have HVM4 := Lib.hid hvm4
  clear hae hb4 hvm4 HVM HD3 HW3
  by_cases hnm : n = m
  · have hwk := works_any w4
    subst hnm
    clear hnI
    go_wp2_with fail
    refine hwk.mono ?_
    rintro e w5 ⟨rfl, hb5⟩
    have HB5 := Lib.hid (HW4.out.trans (hb5.mono HW4.out.size))
    clear hb5 hwk
    go_wp2
    go_ret
    exact ⟨rfl, HB5.out⟩
  · obtain ⟨m', rfl⟩ : ∃ k, m = k + 1 := ⟨m - 1, by omega⟩
    have hnl : n ≤ m' := by omega
    have hml : m' < L.length := by rw [HM.out]; omega
    have hat := fun i (hi : i < L.length) => art_at HVM4.out hi
    have HAT := Lib.hid hat
    obtain ⟨ad, X1, y1, X2, y2, X3, y3, rfl, -, hbk, hrun⟩ := hat m' hml
    obtain ⟨q0, -, -, -⟩ := hrun w4 (fun _ _ => rfl)
    have hr2 := range_in HD4.out s L[m'].head
    rw [HHE.out m' hml, HHI.out m' (by rw [HM.out])] at hr2
    obtain ⟨hd, hhd⟩ : ∃ x, L[m'].head = x := ⟨_, rfl⟩
    rw [hhd] at hr2 q0
    have hnmI : ((n : Int) == ((m' + 1 : Nat) : Int)) = false := beq_false_of_ne (by omega)
    clear hat hhd hbk hrun hnI hnm
    go_wp2_with fail
    refine hr2.mono ?_
    rintro e w5 ⟨vh, rfl, hvh, hb5⟩
    obtain ⟨AH, cH, rfl, -, -⟩ := hvh.form
    have hge := get_in (HD4.out.below hb5) s hs
    have hvm5 : ArtsF w5 (fun b => b < w5.heap.size) L (.slice (some ad) (m' + 1) cM) := HVM4.out.keep (fun b (hb : b < w4.heap.size) => Nat.lt_of_lt_of_le hb hb5.size) (keepS_below hb5 fun b hb => hb)
    have hvh5 : ArtsF w5 (fun b => b < w5.heap.size) (L.drop (placeT gs L s)) (.slice AH (L.drop (placeT gs L s)).length cH) := hvh.keep (fun b hb => hb.2) (fun _ _ => rfl)
    have HW5 := Lib.hid (HW4.out.trans (hb5.mono HW4.out.size))
    have HVM5 := Lib.hid hvm5; have HVH5 := Lib.hid hvh5; have HB45 := Lib.hid hb5
    clear hr2 hvh hb5 hvm5 hvh5 q0
    cases htb : thereB L s with
    | false =>
      rw [htb] at hge
      have hpn : placeT gs L s = n := by have h := HUT.out; rw [htb, if_neg (by decide)] at h; omega
      rw [hpn] at HVH5 ⊢
      have hln : (L.drop n).length = m' + 1 - n := by rw [List.length_drop, HM.out]
      rw [hln] at HVH5 ⊢
      clear hpn hln htb
      go_wp2_with fail
      refine hge.mono ?_
      rintro e w6 ⟨cs, rfl, hx6, hb6⟩
      obtain ⟨Z1, z1, Z2, z2, Z3, z3, rfl⟩ := hx6.form
      dsimp only [aggM]
      have hba : Below w5.heap.size w5 (w6.alloc (.cells #[.string (artOf L s).head, .slice Z1 (artOf L s).word.length z1, .slice Z2 (artOf L s).texts.length z2, .slice Z3 (artOf L s).see.length z3] 35)) := hb6.alloc hb6.size _
      clear hx6 hb6 hge
      generalize (artOf L s).head = x1 at *
      generalize (artOf L s).word.length = x2 at *
      generalize (artOf L s).texts.length = x3 at *
      generalize (artOf L s).see.length = x4 at *
      obtain ⟨wa, hwa⟩ : ∃ W, w6.alloc (.cells #[.string x1, .slice Z1 x2 z1, .slice Z2 x3 z2, .slice Z3 x4 z3] 35) = W := ⟨_, rfl⟩
      rw [hwa] at hba
      have hae := articles_eq wa (L.drop n) (.slice AH (m' + 1 - n) cH) (.slice ((some ad).map (·.add (n * 4))) (m' + 1 - n) (cM - n)) (fun b => b < wa.heap.size) (fun b => b < wa.heap.size) (HVH5.out.keep (fun b (hb : b < w5.heap.size) => Nat.lt_of_lt_of_le hb hba.size) (keepS_below hba fun b hb => hb))
        ((HVM5.out.keep (S' := fun b => b < wa.heap.size) (fun b (hb : b < w5.heap.size) => Nat.lt_of_lt_of_le hb hba.size) (keepS_below hba fun b hb => hb)).drop_ (fun _ _ h => h.len) (by rw [HM.out]; omega) (fun _ => rfl) (by omega) (by omega)) (fun b hb => hb) (fun b hb => hb)
      have HWA := Lib.hid (HW5.out.trans (hba.mono HW5.out.size))
      have hcn : ¬ cM = n := by omega
      have hnmL : (n : Int) ≤ ((m' + 1 : Nat) : Int) := by omega
      clear hba
      go_wp2_with fail
      refine hae.mono ?_
      rintro e w7 ⟨rfl, hb7⟩
      have hwk := works_any w7
      have HW7 := Lib.hid (HWA.out.trans (hb7.mono HWA.out.size))
      clear hae hb7
      go_wp2_with fail
      refine hwk.mono ?_
      rintro e w8 ⟨rfl, hb8⟩
      have HW8 := Lib.hid (HW7.out.trans (hb8.mono HW7.out.size))
      clear hwk hb8
      go_wp2
      go_ret
      exact ⟨rfl, HW8.out⟩
    | true =>
      rw [htb] at hge
      obtain ⟨p, hpp⟩ : ∃ p, placeT gs L s = p := ⟨_, rfl⟩
      obtain ⟨hpl, hph, hpa⟩ := HTA.out htb
      have hpn : n = p + 1 := by have h := HUT.out; rw [htb, if_pos rfl] at h; omega
      rw [hpp] at HVH5
      have hpl' : p < L.length := by omega
      have hpa' : artOf L s = L[p] := by rw [hpa]; congr 1
      rw [hpa'] at hge
      have hln : (L.drop (placeT gs L s)).length = m' + 1 - p := by rw [hpp, List.length_drop, HM.out]
      have hln2 : (L.drop p).length = m' + 1 - p := by rw [List.length_drop, HM.out]
      rw [hln]
      rw [hln2] at HVH5
      subst hpn
      obtain ⟨ad2, Y1, o1, Y2, o2, Y3, o3, e2, hx, -, hrun⟩ := HAT.out p hpl'
      injection e2 with e2
      subst e2
      have HRUN := Lib.hid hrun; have HX := Lib.hid hx
      clear hpl hph hpa hpa' hpp hln hln2 htb hrun hx
      obtain ⟨x, hxx⟩ : ∃ x, L[p] = x := ⟨_, rfl⟩
      rw [hxx] at hge HRUN HX
      clear hxx
      go_wp2_with fail
      refine hge.mono ?_
      rintro e w6 ⟨cs, rfl, hx6, hb6⟩
      obtain ⟨Z1, z1, Z2, z2, Z3, z3, rfl⟩ := hx6.form
      dsimp only [aggM]
      have hbx := Blk.new w6 35 #[.string x.head, .slice Z1 x.word.length z1, .slice Z2 x.texts.length z2, .slice Z3 x.see.length z3]
      obtain ⟨wa, hwa⟩ : ∃ W, w6.alloc (.cells #[.string x.head, .slice Z1 x.word.length z1, .slice Z2 x.texts.length z2, .slice Z3 x.see.length z3] 35) = W := ⟨_, rfl⟩
      have hba : Below w6.heap.size w6 wa := hwa ▸ (Below.refl _ _).alloc (Nat.le_refl _) _
      rw [hwa] at hbx
      have hb5a : Below w5.heap.size w5 wa := hb6.trans (hba.mono hb6.size)
      have hb4a : Below w4.heap.size w4 wa := HB45.out.trans (hb5a.mono HB45.out.size)
      have hm1 : ArtF wa.drew (fun b => b < wa.heap.size) x [.string x.head, .slice Y1 x.word.length o1, .slice Y2 x.texts.length o2, .slice Y3 x.see.length o3] := HX.out.keep (fun b (hb : b < w4.heap.size) => Nat.lt_of_lt_of_le hb hb4a.size) (keepS_below hb4a.drew fun b hb => hb)
      have hm2 : ArtF wa.drew (fun b => b < wa.heap.size) x [.string x.head, .slice Z1 x.word.length z1, .slice Z2 x.texts.length z2, .slice Z3 x.see.length z3] := hx6.keep (fun b hb => Nat.lt_of_lt_of_le hb.2 hba.size) (keepS_below hba.drew fun b hb => hb.2)
      have hsm := same_any wa.drew x _ _ _ _ hm1 hm2 (fun b hb => hb) (fun b hb => hb)
      have hcs : ∀ W, Below wa.heap.size wa W → (W.cell? ⟨w6.heap.size, 0, none⟩ = some (.string x.head) ∧ W.cell? ⟨w6.heap.size, 1, none⟩ = some (.slice Z1 x.word.length z1) ∧ W.cell? ⟨w6.heap.size, 2, none⟩ = some (.slice Z2 x.texts.length z2) ∧ W.cell? ⟨w6.heap.size, 3, none⟩ = some (.slice Z3 x.see.length z3)) ∧ (W.cell? (ad.add (p * 4)) = some (.string x.head) ∧ W.cell? ⟨(ad.add (p * 4)).block, (ad.add (p * 4)).off + 1, none⟩ = some (.slice Y1 x.word.length o1) ∧ W.cell? ⟨(ad.add (p * 4)).block, (ad.add (p * 4)).off + 2, none⟩ = some (.slice Y2 x.texts.length o2) ∧ W.cell? ⟨(ad.add (p * 4)).block, (ad.add (p * 4)).off + 3, none⟩ = some (.slice Y3 x.see.length o3)) := fun W hW => by
        have y := hbx.below hW hbx.lt
        exact ⟨⟨y.cell 0, y.cell 1, y.cell 2, y.cell 3⟩, HRUN.out W (keepS_below (hb4a.trans (hW.mono hb4a.size)) fun b hb => hb)⟩
      have hae : ∀ W, Below wa.heap.size wa W → Calls Tryd.prog 16 #[.slice AH (m' + 1 - p) cH, .slice ((some ad).map (·.add (p * 4))) (m' + 1 - p) (cM - p)] W (BoolPost W true) := fun W hW => by
        have hbW : Below w5.heap.size w5 W := hb5a.trans (hW.mono hb5a.size)
        have h1 : ArtsF W (fun b => b < W.heap.size) (L.drop p) (.slice AH (m' + 1 - p) cH) := HVH5.out.keep (fun b (hb : b < w5.heap.size) => Nat.lt_of_lt_of_le hb hbW.size) (keepS_below hbW fun b hb => hb)
        have h2 : ArtsF W (fun b => b < W.heap.size) L (.slice (some ad) (m' + 1) cM) := HVM5.out.keep (fun b (hb : b < w5.heap.size) => Nat.lt_of_lt_of_le hb hbW.size) (keepS_below hbW fun b hb => hb)
        exact articles_eq W (L.drop p) _ _ _ _ h1 (SlF.drop_ h2 (fun _ _ h => h.len) (by rw [HM.out]; omega) (fun _ => rfl) (by omega) (by omega)) (fun b hb => hb) (fun b hb => hb)
      have HWA := Lib.hid (HW5.out.trans (hb5a.mono HW5.out.size))
      have HCS := Lib.hid hcs; have HSM := Lib.hid hsm; have HAE := Lib.hid hae
      obtain ⟨⟨t0, t1, t2, t3⟩, s0, s1, s2, s3⟩ := hcs wa (Below.refl _ _)
      have hcp : ¬ cM = p := by omega
      have hp0 : (0 : Int) < ((p + 1 : Nat) : Int) := by omega
      have hpm : (p : Int) ≤ ((m' + 1 : Nat) : Int) := by omega
      have hp1 : (p : Int) < (m' : Int) + 1 := by omega
      have hp2 : (p : Int) ≤ (m' : Int) + 1 := by omega
      have hwr : IntKind.i64.wrap (p : Int) = (p : Int) := IntWalk.i64_in _ (by omega)
      have hr0 : (0 : Int) ≤ (p : Int) := by omega
      clear hx6 hb6 hbx hba hb5a hb4a hm1 hm2 hsm hcs hae hge
      generalize x.head = xh at *
      generalize x.word.length = xw at *
      generalize x.texts.length = xt at *
      generalize x.see.length = xs' at *
      go_upto_region 19 with fail
      clear hwa
      refine wp_region_held_drew (S := (fun W => (W.cell? ⟨w6.heap.size, 0, none⟩ = some (.string xh) ∧ W.cell? ⟨w6.heap.size, 1, none⟩ = some (.slice Z1 xw z1) ∧ W.cell? ⟨w6.heap.size, 2, none⟩ = some (.slice Z2 xt z2) ∧ W.cell? ⟨w6.heap.size, 3, none⟩ = some (.slice Z3 xs' z3)) ∧ (W.cell? (ad.add (p * 4)) = some (.string xh) ∧ W.cell? ⟨(ad.add (p * 4)).block, (ad.add (p * 4)).off + 1, none⟩ = some (.slice Y1 xw o1) ∧ W.cell? ⟨(ad.add (p * 4)).block, (ad.add (p * 4)).off + 2, none⟩ = some (.slice Y2 xt o2) ∧ W.cell? ⟨(ad.add (p * 4)).block, (ad.add (p * 4)).off + 3, none⟩ = some (.slice Y3 xs' o3)))) (by kernel_rfl) ?_ (fun hHeld => ?_)
      · (try dsimp only)
        first | exact HCS.out _ HBE3.out | exact HCS.out _ HBE2.out | exact HCS.out _ HBE.out | exact HCS.out _ (Below.refl _ _).drew
      refine wpAnyH_take (i := 0) (v := ?_) rfl (by kernel_rfl) (by kernel_rfl) (by kernel_rfl) (fun _ _ _ h => h) (Or.inl ⟨by rfl, ?_⟩) (by assumption) ?_
      rotate_left
      · intro w hSw
        (try dsimp only at hSw)
        go_simp <;> with_reducible rfl
      try simp only [Act.put, List.getElem_toArray, List.getElem_cons_succ, List.getElem_cons_zero, List.setIfInBounds_toArray, List.set_cons_zero, List.set_cons_succ]
      refine wpAnyH_take (i := 1) (v := ?_) rfl (by kernel_rfl) (by kernel_rfl) (by kernel_rfl) (fun _ _ _ h => h) (Or.inl ⟨by rfl, ?_⟩) (by assumption) ?_
      rotate_left
      · intro w hSw
        (try dsimp only at hSw)
        go_simp <;> with_reducible rfl
      try simp only [Act.put, List.getElem_toArray, List.getElem_cons_succ, List.getElem_cons_zero, List.setIfInBounds_toArray, List.set_cons_zero, List.set_cons_succ]
      refine wpAnyH_take (i := 2) (v := ?_) rfl (by kernel_rfl) (by kernel_rfl) (by kernel_rfl) (fun _ _ _ h => h) (Or.inl ⟨by rfl, ?_⟩) (by assumption) ?_
      rotate_left
      · intro w hSw
        (try dsimp only at hSw)
        go_simp <;> with_reducible rfl
      try simp only [Act.put, List.getElem_toArray, List.getElem_cons_succ, List.getElem_cons_zero, List.setIfInBounds_toArray, List.set_cons_zero, List.set_cons_succ]
      refine wpAnyH_take (i := 3) (v := ?_) rfl (by kernel_rfl) (by kernel_rfl) (by kernel_rfl) (fun _ _ _ h => h) (Or.inl ⟨by rfl, ?_⟩) (by assumption) ?_
      rotate_left
      · intro w hSw
        (try dsimp only at hSw)
        go_simp <;> with_reducible rfl
      try simp only [Act.put, List.getElem_toArray, List.getElem_cons_succ, List.getElem_cons_zero, List.setIfInBounds_toArray, List.set_cons_zero, List.set_cons_succ]
      refine wpAnyH_take (i := 4) (v := ?_) rfl (by kernel_rfl) (by kernel_rfl) (by kernel_rfl) (fun _ _ _ h => h) (Or.inl ⟨by rfl, ?_⟩) (by assumption) ?_
      rotate_left
      · intro w hSw
        (try dsimp only at hSw)
        go_simp <;> with_reducible rfl
      try simp only [Act.put, List.getElem_toArray, List.getElem_cons_succ, List.getElem_cons_zero, List.setIfInBounds_toArray, List.set_cons_zero, List.set_cons_succ]
      refine wpAnyH_take (i := 5) (v := ?_) rfl (by kernel_rfl) (by kernel_rfl) (by kernel_rfl) (fun _ _ _ h => h) (Or.inl ⟨by rfl, ?_⟩) (by assumption) ?_
      rotate_left
      · intro w hSw
        (try dsimp only at hSw)
        go_simp <;> with_reducible rfl
      try simp only [Act.put, List.getElem_toArray, List.getElem_cons_succ, List.getElem_cons_zero, List.setIfInBounds_toArray, List.set_cons_zero, List.set_cons_succ]
      refine wpAnyH_take (i := 6) (v := ?_) rfl (by kernel_rfl) (by kernel_rfl) (by kernel_rfl) (fun _ _ _ h => h) (Or.inl ⟨by rfl, ?_⟩) (by assumption) ?_
      rotate_left
      · intro w hSw
        (try dsimp only at hSw)
        go_simp <;> with_reducible rfl
      try simp only [Act.put, List.getElem_toArray, List.getElem_cons_succ, List.getElem_cons_zero, List.setIfInBounds_toArray, List.set_cons_zero, List.set_cons_succ]
      refine wpAnyH_take (i := 7) (v := ?_) rfl (by kernel_rfl) (by kernel_rfl) (by kernel_rfl) (fun _ _ _ h => h) (Or.inl ⟨by rfl, ?_⟩) (by assumption) ?_
      rotate_left
      · intro w hSw
        (try dsimp only at hSw)
        go_simp <;> with_reducible rfl
      try simp only [Act.put, List.getElem_toArray, List.getElem_cons_succ, List.getElem_cons_zero, List.setIfInBounds_toArray, List.set_cons_zero, List.set_cons_succ]
      refine wpAnyH_take (i := 8) (v := ?_) rfl (by kernel_rfl) (by kernel_rfl) (by kernel_rfl) (fun _ _ _ h => h) (Or.inl ⟨by rfl, ?_⟩) (by assumption) ?_
      rotate_left
      · intro w hSw
        (try dsimp only at hSw)
        go_simp <;> with_reducible rfl
      try simp only [Act.put, List.getElem_toArray, List.getElem_cons_succ, List.getElem_cons_zero, List.setIfInBounds_toArray, List.set_cons_zero, List.set_cons_succ]
      refine wpAnyH_ready (rs := [9]) (by kernel_rfl) (by simp) ?_
      refine AllReadyH.cons rfl (fun K hK => ?_) AllReadyH.nil
      go_simp
      (try go_wp2_with fail)
      refine HSM.out.mono ?_
      rintro e wb ⟨rfl, hbb2⟩
      have HBE := Lib.hid ((Below.refl wa.heap.size wa).drew.trans (hbb2 : Below wa.heap.size wa.drew wb))
      clear hbb2
      (try go_simp)
      refine hK.out _ _ ?_ (fun hHeld' => ?_)
      · (try dsimp only)
        first | exact HCS.out _ HBE3.out | exact HCS.out _ HBE2.out | exact HCS.out _ HBE.out | exact HCS.out _ (Below.refl _ _).drew
      clear hK K hHeld
      have hHeld := hHeld'
      clear hHeld'
      refine wpAnyH_take (i := 10) (v := ?_) rfl (by kernel_rfl) (by kernel_rfl) (by kernel_rfl) (fun _ _ _ h => h) (Or.inl ⟨by rfl, ?_⟩) (by assumption) ?_
      rotate_left
      · intro w hSw
        (try dsimp only at hSw)
        go_simp <;> with_reducible rfl
      try simp only [Act.put, List.getElem_toArray, List.getElem_cons_succ, List.getElem_cons_zero, List.setIfInBounds_toArray, List.set_cons_zero, List.set_cons_succ]
      refine wpAnyH_take (i := 11) (v := ?_) rfl (by kernel_rfl) (by kernel_rfl) (by kernel_rfl) (fun _ _ _ h => h) (Or.inl ⟨by rfl, ?_⟩) (by assumption) ?_
      rotate_left
      · intro w hSw
        (try dsimp only at hSw)
        go_simp <;> with_reducible rfl
      try simp only [Act.put, List.getElem_toArray, List.getElem_cons_succ, List.getElem_cons_zero, List.setIfInBounds_toArray, List.set_cons_zero, List.set_cons_succ]
      refine wpAnyH_take (i := 12) (v := ?_) rfl (by kernel_rfl) (by kernel_rfl) (by kernel_rfl) (fun _ _ _ h => h) (Or.inl ⟨by rfl, ?_⟩) (by assumption) ?_
      rotate_left
      · intro w hSw
        (try dsimp only at hSw)
        go_simp <;> with_reducible rfl
      try simp only [Act.put, List.getElem_toArray, List.getElem_cons_succ, List.getElem_cons_zero, List.setIfInBounds_toArray, List.set_cons_zero, List.set_cons_succ]
      refine wpAnyH_take (i := 13) (v := ?_) rfl (by kernel_rfl) (by kernel_rfl) (by kernel_rfl) (fun _ _ _ h => h) (Or.inl ⟨by rfl, ?_⟩) (by assumption) ?_
      rotate_left
      · intro w hSw
        (try dsimp only at hSw)
        go_simp <;> with_reducible rfl
      try simp only [Act.put, List.getElem_toArray, List.getElem_cons_succ, List.getElem_cons_zero, List.setIfInBounds_toArray, List.set_cons_zero, List.set_cons_succ]
      refine wpAnyH_take (i := 14) (v := ?_) rfl (by kernel_rfl) (by kernel_rfl) (by kernel_rfl) (fun _ _ _ h => h) (Or.inl ⟨by rfl, ?_⟩) (by assumption) ?_
      rotate_left
      · intro w hSw
        (try dsimp only at hSw)
        go_simp <;> with_reducible rfl
      try simp only [Act.put, List.getElem_toArray, List.getElem_cons_succ, List.getElem_cons_zero, List.setIfInBounds_toArray, List.set_cons_zero, List.set_cons_succ]
      refine wpAnyH_take (i := 15) (v := ?_) rfl (by kernel_rfl) (by kernel_rfl) (by kernel_rfl) (fun _ _ _ h => h) (Or.inl ⟨by rfl, ?_⟩) (by assumption) ?_
      rotate_left
      · intro w hSw
        (try dsimp only at hSw)
        go_simp <;> with_reducible rfl
      try simp only [Act.put, List.getElem_toArray, List.getElem_cons_succ, List.getElem_cons_zero, List.setIfInBounds_toArray, List.set_cons_zero, List.set_cons_succ]
      refine wpAnyH_take (i := 16) (v := ?_) rfl (by kernel_rfl) (by kernel_rfl) (by kernel_rfl) (fun _ _ _ h => h) (Or.inl ⟨by rfl, ?_⟩) (by assumption) ?_
      rotate_left
      · intro w hSw
        (try dsimp only at hSw)
        go_simp <;> with_reducible rfl
      try simp only [Act.put, List.getElem_toArray, List.getElem_cons_succ, List.getElem_cons_zero, List.setIfInBounds_toArray, List.set_cons_zero, List.set_cons_succ]
      refine wpAnyH_ready (rs := [17]) (by kernel_rfl) (by simp) ?_
      refine AllReadyH.cons rfl (fun K hK => ?_) AllReadyH.nil
      go_simp
      (try go_wp2_with fail)
      refine (HAE.out _ HBE.out).mono ?_
      rintro e wc ⟨rfl, hbc2⟩
      have HBE2 := Lib.hid (HBE.out.trans (hbc2.mono HBE.out.size))
      clear hbc2
      (try go_simp)
      refine hK.out _ _ ?_ (fun hHeld' => ?_)
      · (try dsimp only)
        first | exact HCS.out _ HBE3.out | exact HCS.out _ HBE2.out | exact HCS.out _ HBE.out | exact HCS.out _ (Below.refl _ _).drew
      clear hK K hHeld
      have hHeld := hHeld'
      clear hHeld'
      refine wpAnyH_take (i := 18) (v := ?_) rfl (by kernel_rfl) (by kernel_rfl) (by kernel_rfl) (fun _ _ _ h => h) (Or.inl ⟨by rfl, ?_⟩) (by assumption) ?_
      rotate_left
      · intro w hSw
        (try dsimp only at hSw)
        go_simp <;> with_reducible rfl
      try simp only [Act.put, List.getElem_toArray, List.getElem_cons_succ, List.getElem_cons_zero, List.setIfInBounds_toArray, List.set_cons_zero, List.set_cons_succ]
      refine wpAnyH_take (i := 19) (v := ?_) rfl (by kernel_rfl) (by kernel_rfl) (by kernel_rfl) (fun _ _ _ h => h) (Or.inl ⟨by rfl, ?_⟩) (by assumption) ?_
      rotate_left
      · intro w hSw
        (try dsimp only at hSw)
        go_simp <;> with_reducible rfl
      try simp only [Act.put, List.getElem_toArray, List.getElem_cons_succ, List.getElem_cons_zero, List.setIfInBounds_toArray, List.set_cons_zero, List.set_cons_succ]
      refine wpAnyH_ready (rs := [20]) (by kernel_rfl) (by simp) ?_
      refine AllReadyH.cons rfl (fun K hK => ?_) AllReadyH.nil
      go_simp
      (try go_wp2_with fail)
      refine (works_any _).mono ?_
      rintro e wd ⟨rfl, hbd2⟩
      have HBE3 := Lib.hid (HBE2.out.trans (hbd2.mono HBE2.out.size))
      clear hbd2
      (try go_simp)
      refine hK.out _ _ ?_ (fun hHeld' => ?_)
      · (try dsimp only)
        first | exact HCS.out _ HBE3.out | exact HCS.out _ HBE2.out | exact HCS.out _ HBE.out | exact HCS.out _ (Below.refl _ _).drew
      clear hK K hHeld
      have hHeld := hHeld'
      clear hHeld'
      refine wpAnyH_take (i := 21) (v := ?_) rfl (by kernel_rfl) (by kernel_rfl) (by kernel_rfl) (fun _ _ _ h => h) (Or.inl ⟨by rfl, ?_⟩) (by assumption) ?_
      rotate_left
      · intro w hSw
        (try dsimp only at hSw)
        go_simp <;> with_reducible rfl
      try simp only [Act.put, List.getElem_toArray, List.getElem_cons_succ, List.getElem_cons_zero, List.setIfInBounds_toArray, List.set_cons_zero, List.set_cons_succ]
      refine wpAnyH_take (i := 22) (v := ?_) rfl (by kernel_rfl) (by kernel_rfl) (by kernel_rfl) (fun _ _ _ h => h) (Or.inl ⟨by rfl, ?_⟩) (by assumption) ?_
      rotate_left
      · intro w hSw
        (try dsimp only at hSw)
        go_simp <;> with_reducible rfl
      try simp only [Act.put, List.getElem_toArray, List.getElem_cons_succ, List.getElem_cons_zero, List.setIfInBounds_toArray, List.set_cons_zero, List.set_cons_succ]
      refine wpAnyH_done (by kernel_rfl) ?_ _
      clear hHeld t0 t1 t2 t3 s0 s1 s2 s3
      have HBF := Lib.hid (HWA.out.trans (HBE3.out.mono HWA.out.size))
      go_wp2
      go_ret
      exact ⟨rfl, HBF.out⟩
end Go.Proofs.YtgkpoopiamicnaaDoor
