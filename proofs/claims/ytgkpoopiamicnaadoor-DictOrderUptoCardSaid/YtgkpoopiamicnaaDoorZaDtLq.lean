/-
  Layer 40: DictOrder: the walk. Conditions: letters and articles that are read.
-/
import Derived.Test.YtgkpoopiamicnaaDoorZaaq
namespace Go.Proofs.YtgkpoopiamicnaaDoor
open Go.RowKit Go.Lib

set_option linter.unusedSimpArgs false in
set_option maxRecDepth 20000 in
set_option maxHeartbeats 8000000 in
theorem dictOrder_law (w : World) (A1 : Option Addr) (n1 c1 : Nat) (ss : List ByteArray) (hr : ReadS w w.heap.size A1 n1 ss) (hn : n1 ≤ 1048576) (hss : ∀ s ∈ ss, s.size ≤ 1048576)
    (v2 : Value) (l : List Art) (hl : ArtsF w (fun b => b < w.heap.size) l v2) (hok : ∀ x ∈ l, ArtOk x) :
    Calls Tryd.prog 4 #[.slice A1 n1 c1, v2] w (BoolPost w true) := by
  obtain ⟨i0, hi, hz0, hz1, hz2⟩ := info_parts (show (Tryd.prog.info? 35).map (fun i => (i.zero, i.size, i.bytes)) = some (some (.agg #[.string ⟨#[]⟩, .slice none 0 0, .slice none 0 0, .slice none 0 0]), 4, 88) by kernel_rfl)
  have hm1 := made_at w A1 n1 c1 1048576 ss hr (by omega) (by omega) (by omega) hss none 0 0 [] (fun _ => False) (slF_nil _ _ _ _) (fun b h => h.elim) (by simp) (by omega)
  obtain ⟨A2, c2, rfl, hc2, hc3⟩ := hl.form
  have hat := fun (i : Nat) (hi : i < l.length) => art_at hl hi
  have hn2 : l.length ≤ 9223372036854775807 := by unfold maxLen at hc3; omega
  obtain ⟨n2, hln⟩ : ∃ n, l.length = n := ⟨_, rfl⟩
  rw [hln] at hn2 ⊢
  have HLN := Lib.hid hln
  have HAT := Lib.hid hat; have HOK := Lib.hid hok; have HR := Lib.hid hr; have HSS := Lib.hid hss
  clear hl hat hok hr hss hln hc2 hc3
  go_enter Tryd.func4, Tryd.ntmps4
  go_wp2_with fail
  refine hm1.mono ?_
  rintro e w1 ⟨hbad, hgood, hb1⟩
  have HB1 := Lib.hid hb1
  have hwk := works_any w1
  by_cases h40 : n1 ≤ 40
  case neg =>
    have h40I : (40 : Int) < (n1 : Int) := by omega
    have hex : ∃ v, e = .returned v := by
      by_cases herr : newErr ss = 0
      · obtain ⟨g, B, D, e1, -⟩ := hgood herr; exact ⟨_, e1⟩
      · exact ⟨_, hbad herr⟩
    obtain ⟨v, rfl⟩ := hex
    clear hm1 hbad hgood hb1
    go_wp2_with fail
    refine hwk.mono ?_
    rintro e w2 ⟨rfl, hb2⟩
    have HB2 := Lib.hid (HB1.out.trans (hb2.mono HB1.out.size))
    clear hb2 hwk
    go_wp2
    go_ret
    exact ⟨rfl, HB2.out⟩
  case pos =>
  have h40I : ¬ (40 : Int) < (n1 : Int) := by omega
  by_cases h30 : n2 ≤ 30
  case neg =>
    have h30I : (30 : Int) < (n2 : Int) := by omega
    have hex : ∃ v, e = .returned v := by
      by_cases herr : newErr ss = 0
      · obtain ⟨g, B, D, e1, -⟩ := hgood herr; exact ⟨_, e1⟩
      · exact ⟨_, hbad herr⟩
    obtain ⟨v, rfl⟩ := hex
    clear hm1 hbad hgood hb1
    go_wp2_with fail
    refine hwk.mono ?_
    rintro e w2 ⟨rfl, hb2⟩
    have HB2 := Lib.hid (HB1.out.trans (hb2.mono HB1.out.size))
    clear hb2 hwk
    go_wp2
    go_ret
    exact ⟨rfl, HB2.out⟩
  case pos =>
  have h30I : ¬ (30 : Int) < (n2 : Int) := by omega
  by_cases herr : newErr ss = 0
  case neg =>
    obtain rfl := hbad herr
    clear hm1 hbad hgood hb1
    go_wp2_with fail
    refine hwk.mono ?_
    rintro e w2 ⟨rfl, hb2⟩
    have HB2 := Lib.hid (HB1.out.trans (hb2.mono HB1.out.size))
    clear hb2 hwk
    go_wp2
    go_ret
    exact ⟨rfl, HB2.out⟩
  case pos =>
  obtain ⟨g, B, D, rfl, hB, hd⟩ := hgood herr
  have HD := Lib.hid hd
  clear hm1 hbad hgood hb1 hd hwk
  go_wp2
  go_loopw [6, 7] (fun v i wr => ∃ (k : Nat) (D : Nat → Prop) (xs : List Value), k ≤ n2 ∧ i = .int .i64 k ∧ DictAt wr B (wptr g) (groupsB ss) (orderSt (groupsB ss) (l.take k)).1 D ∧ InR w.heap.size w1.heap.size wr D (orderSt (groupsB ss) (l.take k)).2 v xs ∧ Below w.heap.size w wr ∧ w1.heap.size ≤ wr.heap.size) (fun _ i _ => n2 - (RowKit.intOf i).toNat)
  case atStart => exact ⟨0, D, [], by omega, rfl, HD.out, InR.start, HB1.out, Nat.le_refl _⟩
  case round =>
    obtain ⟨k, Dk, xs, hk, rfl, hd, hin, hb, hsz⟩ := hrel
    have HDk := Lib.hid hd; have HIN := Lib.hid hin; have HB := Lib.hid hb
    clear hd hin hb
    by_cases hlt : k < n2
    · have hkI : (k : Int) < (n2 : Int) := by omega
      have hkl : k < l.length := by rw [HLN.out]; exact hlt
      obtain ⟨ad, X1, y1, X2, y2, X3, y3, rfl, hx, hbk, hrun⟩ := HAT.out k hkl
      have hkp := keepS_below HB.out (fun b (hb : b < w.heap.size) => hb)
      have hxr := hx.keep (w' := wr) (fun _ h => h) hkp
      obtain ⟨q0, q1, q2, q3⟩ := hrun wr hkp
      have hp := put_at HDk.out l[k] _ (fun b => b < w.heap.size) hxr (fun b hb => ⟨Nat.lt_of_lt_of_le hb HB.out.size, fun hd => by have := (HDk.out.lt b hd).1; omega⟩) (HOK.out _ (List.getElem_mem hkl))
      have htk := orderSt_take (gs := groupsB ss) hkl
      have hpl := orderSt_len (groupsB ss) (l.take k)
      rw [List.length_take] at hpl
      have hq : ∀ W, Below w.heap.size w W → ArtCells W (ad.add (k * 4)) l[k] X1 y1 X2 y2 X3 y3 ∧ ArtF W (fun b => b < w.heap.size) l[k] [.string l[k].head, .slice X1 l[k].word.length y1, .slice X2 l[k].texts.length y2, .slice X3 l[k].see.length y3] := fun W hW => ⟨hrun W (keepS_below hW fun b hb => hb), hx.keep (fun _ h => h) (keepS_below hW fun b hb => hb)⟩
      generalize l[k] = x at *
      unfold ArtCells at hq
      have HTK := Lib.hid htk; have HQ := Lib.hid hq
      obtain ⟨p1, hp1⟩ : ∃ p, orderSt (groupsB ss) (l.take k) = p := ⟨_, rfl⟩
      rw [hp1] at hp HDk HIN HTK hpl
      clear hx hrun hbk hkp hxr htk hq hkl hp1
      go_wp2_with fail
      refine hp.mono ?_
      rintro e w3 ⟨rfl, D3, hd3, hD3, hc3⟩
      have hb3 : Below B wr w3 := hc3.below (fun b hb => (HDk.out.lt b hb).1) HDk.out.low
      have hb03 : Below w.heap.size w w3 := HB.out.trans (hb3.mono hB)
      have hin3 := HIN.out.turn hc3 (hb3.mono hB) hD3
      have hsz3 := hc3.size
      obtain ⟨⟨u0, u1, u2, u3⟩, hxf⟩ := HQ.out w3 hb03
      have HB3 := Lib.hid hb03; have HIN3 := Lib.hid hin3; have HD3 := Lib.hid hd3; have HXF := Lib.hid hxf
      clear hp hd3 hD3 hc3 hb3 hb03 hin3 q0 q1 q2 q3 hxf
      by_cases hz : artE (groupsB ss) p1.1 x = 0
      · have hst : stepO (groupsB ss) p1 x = (putL (groupsB ss) p1.1 x, p1.2 ++ [x]) := by unfold stepO putL; rw [if_pos hz, if_pos hz]
        have HST := Lib.hid hst
        rw [hz]
        clear hst hz
        have hown3 := HIN3.out.own
        have hlen3 : p1.2.length ≤ 1000 := by omega
        clear hpl
        have hrn := reads_newk w3 35 [.string x.head, .slice X1 x.word.length y1, .slice X2 x.texts.length y2, .slice X3 x.see.length y3] 4 1 rfl
        have HO3 := Lib.hid hown3; have HRN := Lib.hid hrn
        clear hown3 hrn
        generalize hpn : p1.2.length = pn at *
        have HPN := Lib.hid hpn
        clear hpn
        go_wp2_with (at_builtin; go_loud (refine wpList_append_any _ rfl _ _ 23 rfl w1.heap.size 35 i0 (.agg #[.string ⟨#[]⟩, .slice none 0 0, .slice none 0 0, .slice none 0 0]) 4 88 Tryd.underlying23 hi hz0 hz1 hz2 rfl (by decide) _ _ _ rfl (HO3.out.alloc _) _ _ _ _ [.string x.head, .slice X1 x.word.length y1, .slice X2 x.texts.length y2, .slice X3 x.see.length y3] rfl HRN.out (by intro u hu; simp only [List.mem_cons, List.not_mem_nil, or_false] at hu; rcases hu with rfl | rfl | rfl | rfl <;> rfl) (by unfold maxLen; omega) (by first | omega | (simp; omega)) (by first | omega | (simp; omega)) ?_; intro v' w4 hown' hgrow hx'; have HG := Lib.hid hgrow; have HN := Lib.hid (InR.next HIN3.out HB1.out.size HXF.out (by rw [HPN.out]; exact hown') hgrow hx' (by omega) (fun b hb => (HD3.out.lt b hb).2)); clear hown' hgrow hx'))
        have hg4 : (w3.alloc (.cells #[.string x.head, .slice X1 x.word.length y1, .slice X2 x.texts.length y2, .slice X3 x.see.length y3] 35)).grownBy w4 u6.ownBlock := HG.out
        have hd4 : DictAt w4 B (wptr g) (groupsB ss) (putL (groupsB ss) p1.1 x) D3 := (HD3.out.below ((Below.refl _ _).alloc (Nat.le_refl _) (.cells #[.string x.head, .slice X1 x.word.length y1, .slice X2 x.texts.length y2, .slice X3 x.see.length y3] 35))).chg (T := fun b => u6.ownBlock = some b) ((ChgS.refl _ _).grown hg4 fun b hb => .inl hb) (fun b hb => by have := (HO3.out.lt b hb).1; have := HD.out.low; omega) (fun b hb he => HIN3.out.far b he hb)
        have hb4 : Below w.heap.size w w4 := (HB3.out.alloc HB3.out.size _).grown hg4 (by simp; have := HB3.out.size; omega) (fun b hb => by have := (HO3.out.lt b hb).1; have := HB1.out.size; omega)
        have hsz4 := hg4.size
        simp only [World.size_alloc] at hsz4
        have HD4 := Lib.hid hd4; have HB4 := Lib.hid hb4
        clear hg4 hd4 hb4
        go_roundw
        case rel => exact ⟨k + 1, D3, _, by omega, by go_num, by rw [HTK.out, HST.out]; exact HD4.out, by rw [HTK.out, HST.out]; exact HN.out, HB4.out, by omega⟩
        case measure => simp [RowKit.intOf]; omega
      · have hst : stepO (groupsB ss) p1 x = (putL (groupsB ss) p1.1 x, p1.2) := by unfold stepO putL; rw [if_neg hz, if_neg hz]
        have HST := Lib.hid hst
        clear hst u0 u1 u2 u3
        go_wp2
        go_roundw
        case rel => exact ⟨k + 1, D3, xs, by omega, by go_num, by rw [HTK.out, HST.out]; exact HD3.out, by rw [HTK.out, HST.out]; exact HIN3.out, HB3.out, by omega⟩
        case measure => simp [RowKit.intOf]; omega
    · obtain rfl : k = n2 := by omega
      have htl : l.take k = l := List.take_of_length_le (by rw [HLN.out]; exact Nat.le_refl _)
      have hpl := orderSt_len (groupsB ss) l
      rw [HLN.out] at hpl
      rw [htl] at HDk HIN
      obtain ⟨wz, hwz⟩ : ∃ x, x = wr := ⟨_, rfl⟩
      subst hwz
      have harts := HIN.out.arts HB.out.size
      obtain ⟨AI, cI, rfl, -, -⟩ := harts.form
      have hati := fun (i : Nat) (hi : i < (orderSt (groupsB ss) l).2.length) => art_at harts hi
      have hbk := order_back (gs := groupsB ss) HOK.out
      have hgood := putAll_good (gs := groupsB ss) HOK.out
      have hlenI := (ordSt_all (gs := groupsB ss) HOK.out).len
      rw [orderSt_fst] at HDk hlenI
      have HAI := Lib.hid hati; have HBK := Lib.hid hbk; have HGD := Lib.hid hgood; have HLI := Lib.hid hlenI
      have hoki : ∀ x ∈ (orderSt (groupsB ss) l).2.reverse, ArtOk x := fun x hx => (((ordSt_all (gs := groupsB ss) HOK.out).good).arts x (((ordSt_all (gs := groupsB ss) HOK.out).mem x).2 (List.mem_reverse.1 hx))).ok
      have HOI := Lib.hid hoki
      clear harts hati hbk hgood hlenI hoki htl
      generalize (orderSt (groupsB ss) l).2 = ins at *
      generalize putAll (groupsB ss) l = L at *
      obtain ⟨m, hm⟩ : ∃ m, ins.length = m := ⟨_, rfl⟩
      have HML := Lib.hid hm
      rw [hm] at hpl ⊢
      clear hm
      go_wp2
      go_loopw [8, 9] (fun v i wr => ∃ (q : Nat) (xs : List Value), q ≤ m ∧ i = .int .i64 ((q : Int) - 1) ∧ InR wz.heap.size wz.heap.size wr (fun _ => False) (ins.drop q).reverse v xs ∧ Below wz.heap.size wz wr) (fun _ i _ => (RowKit.intOf i + 1).toNat)
      case atStart => exact ⟨m, [], by omega, rfl, by rw [List.drop_of_length_le (by rw [HML.out]; exact Nat.le_refl _)]; exact InR.start, Below.refl _ _⟩
      case round =>
        obtain ⟨q, xb, hq, rfl, hib, hbb⟩ := hrel
        have HIB := Lib.hid hib; have HBB := Lib.hid hbb
        clear hib hbb
        by_cases hq0 : q = 0
        · subst hq0
          rw [List.drop_zero] at HIB
          have hab := HIB.out.arts HBB.out.size
          obtain ⟨AB, cB, rfl, -, -⟩ := hab.form
          have hbw : Below w.heap.size w wr := HB.out.trans (HBB.out.mono HB.out.size)
          have hmd := made_at wr A1 n1 c1 1048576 ss (show ReadS _ _ _ _ _ from (Reads.below HR.out hbw).more hbw.size) (by omega) (by omega) (by omega) HSS.out AB ins.reverse.length cB ins.reverse (fun b => b < wr.heap.size) hab (fun b hb => hb) HOI.out (by rw [List.length_reverse, HML.out]; omega)
          have HBW := Lib.hid hbw
          rw [List.length_reverse, HML.out] at hmd
          rw [show (ins.reverse.length : Nat) = m by rw [List.length_reverse, HML.out]]
          clear hab hbw
          go_wp2_with fail
          refine hmd.mono ?_
          rintro e w5 ⟨-, hgood, hb5⟩
          obtain ⟨g2, B2, D2, rfl, hB2, hd5⟩ := hgood herr
          rw [HBK.out] at hd5
          have hd1 := (HDk.out.below HBB.out).below hb5
          have hli := list_in hd1.dict
          have HB5 := Lib.hid hb5; have HD5 := Lib.hid hd5; have HE5 := Lib.hid hd1
          clear hmd hgood hb5 hd5 hd1
          go_wp2_with fail
          refine hli.mono ?_
          rintro e w6 ⟨vm, rfl, hvm, hb6⟩
          have hbw6 : Below w.heap.size w w6 := (HBW.out.trans (HB5.out.mono HBW.out.size)).trans (hb6.mono (Nat.le_trans HBW.out.size HB5.out.size))
          have hnw := newM_any A1 n1 c1 1048576 ss w6 (show ReadS _ _ _ _ _ from (Reads.below HR.out hbw6).more hbw6.size) (by omega) (by omega) (by omega) HSS.out
          have HB6 := Lib.hid hb6; have HVM := Lib.hid hvm; have HBW6 := Lib.hid hbw6
          clear hli hb6 hvm hbw6
          go_wp2_with fail
          refine hnw.mono ?_
          rintro e w7 ⟨-, hok7, hb7⟩
          obtain ⟨ga, rfl, hA, hG⟩ := hok7 herr
          have hd7 := (HE5.out.below HB6.out).below hb7
          have he7 := (HD5.out.below HB6.out).below hb7
          have hle := len_in hd7.dict
          obtain ⟨AM, cM, rfl, -, -⟩ := HVM.out.form
          have hLm : L.length = m := HLI.out.trans HML.out
          have HLM := Lib.hid hLm
          rw [hLm] at hle ⊢
          have HB7 := Lib.hid hb7; have HA := Lib.hid hA; have HG := Lib.hid hG; have HD7 := Lib.hid hd7; have HE7 := Lib.hid he7
          clear hnw hok7 hb7 hA hG hd7 he7 hLm
          go_wp2_with fail
          refine hle.mono ?_
          rintro e w8 ⟨rfl, rfl⟩
          have hl2 := list_in HE7.out.dict
          clear hle
          go_wp2_with fail
          refine hl2.mono ?_
          rintro e w8 ⟨v8, rfl, hv8, hb8⟩
          have hb68 := HB7.out.trans (hb8.mono HB7.out.size)
          have hvm8 : ArtsF w8 (fun b => b < w6.heap.size) L (.slice AM L.length cM) := HVM.out.keep (fun b hb => hb.2) (keepS_below hb68 fun b hb => hb.2)
          have hae := articles_eq w8 L _ v8 _ _ hvm8 hv8 (fun b hb => Nat.lt_of_lt_of_le hb hb68.size) (fun b hb => hb.2)
          rw [HLM.out] at hae
          have HV8 := Lib.hid hvm8; have HB68 := Lib.hid hb68; have HD8 := Lib.hid (HD7.out.below hb8); have HA8 := Lib.hid (HA.out.below hb8)
          clear hl2 hv8 hb8 hb68 hvm8
          go_wp2_with fail
          refine hae.mono ?_
          rintro e w9 ⟨rfl, hb9⟩
          have hb69 := HB68.out.trans (hb9.mono HB68.out.size)
          have hatm := fun (i : Nat) (hi : i < L.length) => art_at HV8.out hi
          have HAM := Lib.hid hatm; have HD9 := Lib.hid (HD8.out.below hb9); have HA9 := Lib.hid (HA8.out.below hb9)
          have HB9 := Lib.hid hb9; have HBW9 := Lib.hid (HBW6.out.trans (hb69.mono HBW6.out.size))
          have hml : m ≤ 30 := by omega
          have hw89 := hb9.size
          have hw68 := HB68.out.size
          clear hae hb9 hb69 hatm
          go_wp2
          go_loopw [14, 15, 16, 17, 18] (fun i _ _ _ _ wr => ∃ j : Nat, j ≤ m ∧ i = .int .i64 j ∧ Below w9.heap.size w9 wr) (fun i _ _ _ _ _ => m - (RowKit.intOf i).toNat)
          case atStart => exact ⟨0, by omega, rfl, Below.refl _ _⟩
          case round =>
            obtain ⟨j, hj, rfl, hbj⟩ := hrel
            have HBJ := Lib.hid hbj
            clear hbj
            by_cases hlj : j < m
            · have hjI : (j : Int) < (m : Int) := by omega
              have hjl : j < L.length := by rw [HLM.out]; exact hlj
              have hb8j : Below w8.heap.size w8 wr := HB9.out.trans (HBJ.out.mono hw89)
              obtain ⟨ad, X1, y1, X2, y2, X3, y3, rfl, hx, hbk, hrun⟩ := HAM.out j hjl
              have hq : ∀ W, Below w8.heap.size w8 W → ArtCells W (ad.add (j * 4)) L[j] X1 y1 X2 y2 X3 y3 := fun W hW => hrun W (keepS_below hW fun b (hb : b < w6.heap.size) => by omega)
              obtain ⟨q0, q1, q2, q3⟩ := hq wr hb8j
              have hge := get_in (HD9.out.below HBJ.out).dict L[j].head (by have := HGD.out.arts _ (List.getElem_mem hjl); have := this.size; omega)
              rw [artOf_mem HGD.out (List.getElem_mem hjl), show thereB L L[j].head = true from thereB_iff.2 ⟨_, List.getElem_mem hjl, rfl⟩] at hge
              have hxm := fun W (hW : Below w8.heap.size w8 W) => hx.keep (w' := W) (fun _ h => h) (keepS_below hW fun b (hb : b < w6.heap.size) => by omega)
              have HXM := Lib.hid hxm; have HQ := Lib.hid hq
              have hprev : ∀ (hj0 : 0 < j), ∃ (Y1 : Option Addr) (z1 : Nat) (Y2 : Option Addr) (z2 : Nat) (Y3 : Option Addr) (z3 : Nat), ∀ W, Below w8.heap.size w8 W → ArtCells W (ad.add ((j - 1) * 4)) (L[j - 1]'(by omega)) Y1 z1 Y2 z2 Y3 z3 := fun hj0 => by
                obtain ⟨ad', Y1, z1, Y2, z2, Y3, z3, e, -, -, hr'⟩ := HAM.out (j - 1) (by omega)
                injection e with e
                subst e
                exact ⟨Y1, z1, Y2, z2, Y3, z3, fun W hW => hr' W (keepS_below hW fun b (hb : b < w6.heap.size) => by omega)⟩
              have hord : ∀ (hj0 : 0 < j), ∀ W, Below w9.heap.size w9 W → Calls Tryd.prog 19 #[.pointer (some ⟨ga, 0, none⟩), .string (L[j - 1]'(by omega)).head, .string L[j].head] W (OrderPost W (-1, 0)) := fun hj0 W hW => by
                have h1 := order_any (some ⟨ga, 0, none⟩) (some (groupsB ss)) (L[j - 1]'(by omega)).head L[j].head W ⟨ga, rfl, HA9.out.below hW, HG.out⟩
                have h2 := order_next HGD.out (i := j - 1) (by omega)
                simp only [show j - 1 + 1 = j by omega] at h2
                rw [show orderRes (readResO (some (groupsB ss)) (L[j - 1]'(by omega)).head) (readResO (some (groupsB ss)) L[j].head) (L[j - 1]'(by omega)).head L[j].head = (-1, 0) from h2] at h1
                exact h1
              have HPV := Lib.hid hprev; have HOR := Lib.hid hord
              clear hx hbk hrun hq hxm hprev hord
              generalize L[j] = x at *
              unfold ArtCells at HQ
              have hwsz := HBJ.out.size
              go_wp2_with fail
              refine hge.mono ?_
              rintro e wg ⟨cs, rfl, hxg, hbg⟩
              obtain ⟨Z1, z1, Z2, z2, Z3, z3, rfl⟩ := hxg.form
              dsimp only [aggM]
              have hbx := Blk.new wg 35 #[.string x.head, .slice Z1 x.word.length z1, .slice Z2 x.texts.length z2, .slice Z3 x.see.length z3]
              obtain ⟨wa, hwa⟩ : ∃ W, wg.alloc (.cells #[.string x.head, .slice Z1 x.word.length z1, .slice Z2 x.texts.length z2, .slice Z3 x.see.length z3] 35) = W := ⟨_, rfl⟩
              have hba : Below wg.heap.size wg wa := hwa ▸ (Below.refl _ _).alloc (Nat.le_refl _) _
              rw [hwa] at hbx
              have hb9a : Below w9.heap.size w9 wa := (HBJ.out.trans (hbg.mono hwsz)).trans (hba.mono (Nat.le_trans hwsz hbg.size))
              have hb8a : Below w8.heap.size w8 wa := HB9.out.trans (hb9a.mono hw89)
              have hxg2 := hxg.keep (w' := wa.drew) (S' := fun b => b < wa.heap.size) (fun b hb => Nat.lt_of_lt_of_le hb.2 hba.size) (keepS_below (hba.drew) fun b hb => hb.2)
              have hsm := same_any wa.drew x _ _ _ _ hxg2 (HXM.out wa.drew hb8a.drew) (fun b hb => hb) (fun b hb => Nat.lt_of_lt_of_le (Nat.lt_of_lt_of_le hb hw68) hb8a.size)
              have hcs : ∀ W, Below wa.heap.size wa W → (W.cell? ⟨wg.heap.size, 0, none⟩ = some (.string x.head) ∧ W.cell? ⟨wg.heap.size, 1, none⟩ = some (.slice Z1 x.word.length z1) ∧ W.cell? ⟨wg.heap.size, 2, none⟩ = some (.slice Z2 x.texts.length z2) ∧ W.cell? ⟨wg.heap.size, 3, none⟩ = some (.slice Z3 x.see.length z3)) ∧ W.cell? (ad.add (j * 4)) = some (.string x.head) ∧ W.cell? ⟨(ad.add (j * 4)).block, (ad.add (j * 4)).off + 1, none⟩ = some (.slice X1 x.word.length y1) ∧ W.cell? ⟨(ad.add (j * 4)).block, (ad.add (j * 4)).off + 2, none⟩ = some (.slice X2 x.texts.length y2) ∧ W.cell? ⟨(ad.add (j * 4)).block, (ad.add (j * 4)).off + 3, none⟩ = some (.slice X3 x.see.length y3) := fun W hW => by
                have y := hbx.below hW hbx.lt
                exact ⟨⟨y.cell 0, y.cell 1, y.cell 2, y.cell 3⟩, HQ.out W (hb8a.trans (hW.mono hb8a.size))⟩
              have HCS := Lib.hid hcs; have HSM := Lib.hid hsm; have HB9A := Lib.hid hb9a; have HB8A := Lib.hid hb8a
              obtain ⟨⟨t0, t1, t2, t3⟩, s0, s1, s2, s3⟩ := hcs wa (Below.refl _ _)
              clear hxg hbg hbx hba hb9a hb8a hxg2 hsm hcs hge
              generalize x.word.length = xw at *
              generalize x.texts.length = xt at *
              generalize x.see.length = xs' at *
              clear q0 q1 q2 q3
              go_upto_region 24 with fail
              clear hwa
              refine wp_region_held_drew (S := (fun W => (W.cell? ⟨wg.heap.size, 0, none⟩ = some (.string x.head) ∧ W.cell? ⟨wg.heap.size, 1, none⟩ = some (.slice Z1 xw z1) ∧ W.cell? ⟨wg.heap.size, 2, none⟩ = some (.slice Z2 xt z2) ∧ W.cell? ⟨wg.heap.size, 3, none⟩ = some (.slice Z3 xs' z3)) ∧ W.cell? (ad.add (j * 4)) = some (.string x.head) ∧ W.cell? ⟨(ad.add (j * 4)).block, (ad.add (j * 4)).off + 1, none⟩ = some (.slice X1 xw y1) ∧ W.cell? ⟨(ad.add (j * 4)).block, (ad.add (j * 4)).off + 2, none⟩ = some (.slice X2 xt y2) ∧ W.cell? ⟨(ad.add (j * 4)).block, (ad.add (j * 4)).off + 3, none⟩ = some (.slice X3 xs' y3))) (by kernel_rfl) ?_ (fun hHeld => ?_)
              · (try dsimp only)
                first | exact HCS.out _ HBE.out | exact HCS.out _ (Below.refl _ _).drew
              refine wpAnyH_take (i := 0) (v := ?_) rfl (by kernel_rfl) (by kernel_rfl) (by kernel_rfl) (fun _ _ _ h => h) (Or.inl ⟨by rfl, ?_⟩) (by assumption) ?_
              rotate_left
              · intro w hSw
                (try dsimp only at hSw)
                go_simp <;> with_reducible rfl
              try simp only [Act.put, List.getElem_toArray, List.getElem_cons_succ, List.getElem_cons_zero, List.setIfInBounds_toArray, List.set_cons_zero, List.set_cons_succ]
              refine wpAnyH_take (i := 1) (v := ?_) rfl (by kernel_rfl) (by kernel_rfl) (by kernel_rfl) (fun _ _ _ h => h) (Or.inl ⟨by rfl, ?_⟩) (by assumption) ?_
              rotate_left
              · intro w hSw
                (try dsimp only at hSw)
                go_simp <;> with_reducible rfl
              try simp only [Act.put, List.getElem_toArray, List.getElem_cons_succ, List.getElem_cons_zero, List.setIfInBounds_toArray, List.set_cons_zero, List.set_cons_succ]
              refine wpAnyH_take (i := 2) (v := ?_) rfl (by kernel_rfl) (by kernel_rfl) (by kernel_rfl) (fun _ _ _ h => h) (Or.inl ⟨by rfl, ?_⟩) (by assumption) ?_
              rotate_left
              · intro w hSw
                (try dsimp only at hSw)
                go_simp <;> with_reducible rfl
              try simp only [Act.put, List.getElem_toArray, List.getElem_cons_succ, List.getElem_cons_zero, List.setIfInBounds_toArray, List.set_cons_zero, List.set_cons_succ]
              refine wpAnyH_take (i := 3) (v := ?_) rfl (by kernel_rfl) (by kernel_rfl) (by kernel_rfl) (fun _ _ _ h => h) (Or.inl ⟨by rfl, ?_⟩) (by assumption) ?_
              rotate_left
              · intro w hSw
                (try dsimp only at hSw)
                go_simp <;> with_reducible rfl
              try simp only [Act.put, List.getElem_toArray, List.getElem_cons_succ, List.getElem_cons_zero, List.setIfInBounds_toArray, List.set_cons_zero, List.set_cons_succ]
              refine wpAnyH_take (i := 4) (v := ?_) rfl (by kernel_rfl) (by kernel_rfl) (by kernel_rfl) (fun _ _ _ h => h) (Or.inl ⟨by rfl, ?_⟩) (by assumption) ?_
              rotate_left
              · intro w hSw
                (try dsimp only at hSw)
                go_simp <;> with_reducible rfl
              try simp only [Act.put, List.getElem_toArray, List.getElem_cons_succ, List.getElem_cons_zero, List.setIfInBounds_toArray, List.set_cons_zero, List.set_cons_succ]
              refine wpAnyH_take (i := 5) (v := ?_) rfl (by kernel_rfl) (by kernel_rfl) (by kernel_rfl) (fun _ _ _ h => h) (Or.inl ⟨by rfl, ?_⟩) (by assumption) ?_
              rotate_left
              · intro w hSw
                (try dsimp only at hSw)
                go_simp <;> with_reducible rfl
              try simp only [Act.put, List.getElem_toArray, List.getElem_cons_succ, List.getElem_cons_zero, List.setIfInBounds_toArray, List.set_cons_zero, List.set_cons_succ]
              refine wpAnyH_take (i := 6) (v := ?_) rfl (by kernel_rfl) (by kernel_rfl) (by kernel_rfl) (fun _ _ _ h => h) (Or.inl ⟨by rfl, ?_⟩) (by assumption) ?_
              rotate_left
              · intro w hSw
                (try dsimp only at hSw)
                go_simp <;> with_reducible rfl
              try simp only [Act.put, List.getElem_toArray, List.getElem_cons_succ, List.getElem_cons_zero, List.setIfInBounds_toArray, List.set_cons_zero, List.set_cons_succ]
              refine wpAnyH_take (i := 7) (v := ?_) rfl (by kernel_rfl) (by kernel_rfl) (by kernel_rfl) (fun _ _ _ h => h) (Or.inl ⟨by rfl, ?_⟩) (by assumption) ?_
              rotate_left
              · intro w hSw
                (try dsimp only at hSw)
                go_simp <;> with_reducible rfl
              try simp only [Act.put, List.getElem_toArray, List.getElem_cons_succ, List.getElem_cons_zero, List.setIfInBounds_toArray, List.set_cons_zero, List.set_cons_succ]
              refine wpAnyH_ready (rs := [8]) (by kernel_rfl) (by simp) ?_
              refine AllReadyH.cons rfl (fun K hK => ?_) AllReadyH.nil
              go_simp
              (try go_wp2_with fail)
              refine HSM.out.mono ?_
              rintro e wb ⟨rfl, hbb2⟩
              have HBE := Lib.hid ((Below.refl wa.heap.size wa).drew.trans (hbb2 : Below wa.heap.size wa.drew wb))
              clear hbb2
              (try go_simp)
              refine hK.out _ _ ?_ (fun hHeld' => ?_)
              · (try dsimp only)
                first | exact HCS.out _ HBE.out | exact HCS.out _ (Below.refl _ _).drew
              clear hK K hHeld
              have hHeld := hHeld'
              clear hHeld'
              refine wpAnyH_take (i := 9) (v := ?_) rfl (by kernel_rfl) (by kernel_rfl) (by kernel_rfl) (fun _ _ _ h => h) (Or.inl ⟨by rfl, ?_⟩) (by assumption) ?_
              rotate_left
              · intro w hSw
                (try dsimp only at hSw)
                go_simp <;> with_reducible rfl
              try simp only [Act.put, List.getElem_toArray, List.getElem_cons_succ, List.getElem_cons_zero, List.setIfInBounds_toArray, List.set_cons_zero, List.set_cons_succ]
              refine wpAnyH_take (i := 10) (v := ?_) rfl (by kernel_rfl) (by kernel_rfl) (by kernel_rfl) (fun _ _ _ h => h) (Or.inl ⟨by rfl, ?_⟩) (by assumption) ?_
              rotate_left
              · intro w hSw
                (try dsimp only at hSw)
                go_simp <;> with_reducible rfl
              try simp only [Act.put, List.getElem_toArray, List.getElem_cons_succ, List.getElem_cons_zero, List.setIfInBounds_toArray, List.set_cons_zero, List.set_cons_succ]
              refine wpAnyH_done (by kernel_rfl) ?_ _
              clear hHeld t0 t1 t2 t3 s0 s1 s2 s3
              have hb9b : Below w9.heap.size w9 wb := HB9A.out.trans (HBE.out.mono HB9A.out.size)
              have HB9B := Lib.hid hb9b
              clear hb9b
              by_cases hj0 : j = 0
              · subst hj0
                go_wp2
                go_roundw
                case rel => exact ⟨1, by omega, rfl, HB9B.out⟩
                case measure => simp [RowKit.intOf] <;> omega
              · obtain ⟨r, rfl⟩ : ∃ r, j = r + 1 := ⟨j - 1, by omega⟩
                have hjp : (0 : Int) < ((r + 1 : Nat) : Int) := by omega
                have hrI : (r : Int) < (m : Int) := by omega
                obtain ⟨Y1, o1, Y2, o2, Y3, o3, hpv⟩ := HPV.out (by omega)
                have hor := HOR.out (by omega)
                simp only [Nat.add_sub_cancel] at hpv hor
                generalize L[r] = xp at *
                have HOR2 := Lib.hid hor
                have hb8b : Below w8.heap.size w8 wb := HB9.out.trans (HB9B.out.mono hw89)
                have k1 := (hpv wb hb8b).1
                have k2 := (HQ.out wb hb8b).1
                clear hpv hor hb8b
                have hwr : IntKind.i64.wrap (r : Int) = (r : Int) := IntWalk.i64_in _ (by omega)
                have hr0 : (0 : Int) ≤ (r : Int) := by omega
                have hr1 : (0 : Int) ≤ (r : Int) + 1 := by omega
                have hr2 : (r : Int) + 1 < (m : Int) := by omega
                go_upto_region 27 with fail
                refine wp_region_held_drew (S := (fun W => W.cell? (ad.add (r * 4)) = some (.string xp.head) ∧ W.cell? (ad.add ((r + 1) * 4)) = some (.string x.head))) (by kernel_rfl) ?_ (fun hHeld => ?_)
                · (try dsimp only)
                  first | exact ⟨k1, k2⟩ | exact KEEP.out
                refine wpAnyH_take (i := 0) (v := ?_) rfl (by kernel_rfl) (by kernel_rfl) (by kernel_rfl) (fun _ _ _ h => h) (Or.inl ⟨by rfl, ?_⟩) (by assumption) ?_
                rotate_left
                · intro w hSw
                  (try dsimp only at hSw)
                  go_simp <;> with_reducible rfl
                try simp only [Act.put, List.getElem_toArray, List.getElem_cons_succ, List.getElem_cons_zero, List.setIfInBounds_toArray, List.set_cons_zero, List.set_cons_succ]
                refine wpAnyH_take (i := 1) (v := ?_) rfl (by kernel_rfl) (by kernel_rfl) (by kernel_rfl) (fun _ _ _ h => h) (Or.inl ⟨by rfl, ?_⟩) (by assumption) ?_
                rotate_left
                · intro w hSw
                  (try dsimp only at hSw)
                  go_simp <;> with_reducible rfl
                try simp only [Act.put, List.getElem_toArray, List.getElem_cons_succ, List.getElem_cons_zero, List.setIfInBounds_toArray, List.set_cons_zero, List.set_cons_succ]
                refine wpAnyH_take (i := 2) (v := ?_) rfl (by kernel_rfl) (by kernel_rfl) (by kernel_rfl) (fun _ _ _ h => h) (Or.inl ⟨by rfl, ?_⟩) (by assumption) ?_
                rotate_left
                · intro w hSw
                  (try dsimp only at hSw)
                  go_simp <;> with_reducible rfl
                try simp only [Act.put, List.getElem_toArray, List.getElem_cons_succ, List.getElem_cons_zero, List.setIfInBounds_toArray, List.set_cons_zero, List.set_cons_succ]
                refine wpAnyH_take (i := 3) (v := ?_) rfl (by kernel_rfl) (by kernel_rfl) (by kernel_rfl) (fun _ _ _ h => h) (Or.inl ⟨by rfl, ?_⟩) (by assumption) ?_
                rotate_left
                · intro w hSw
                  (try dsimp only at hSw)
                  go_simp <;> with_reducible rfl
                try simp only [Act.put, List.getElem_toArray, List.getElem_cons_succ, List.getElem_cons_zero, List.setIfInBounds_toArray, List.set_cons_zero, List.set_cons_succ]
                refine wpAnyH_take (i := 4) (v := ?_) rfl (by kernel_rfl) (by kernel_rfl) (by kernel_rfl) (fun _ _ _ h => h) (Or.inl ⟨by rfl, ?_⟩) (by assumption) ?_
                rotate_left
                · intro w hSw
                  (try dsimp only at hSw)
                  go_simp <;> with_reducible rfl
                try simp only [Act.put, List.getElem_toArray, List.getElem_cons_succ, List.getElem_cons_zero, List.setIfInBounds_toArray, List.set_cons_zero, List.set_cons_succ]
                refine wpAnyH_take (i := 5) (v := ?_) rfl (by kernel_rfl) (by kernel_rfl) (by kernel_rfl) (fun _ _ _ h => h) (Or.inl ⟨by rfl, ?_⟩) (by assumption) ?_
                rotate_left
                · intro w hSw
                  (try dsimp only at hSw)
                  go_simp <;> with_reducible rfl
                try simp only [Act.put, List.getElem_toArray, List.getElem_cons_succ, List.getElem_cons_zero, List.setIfInBounds_toArray, List.set_cons_zero, List.set_cons_succ]
                refine wpAnyH_take (i := 6) (v := ?_) rfl (by kernel_rfl) (by kernel_rfl) (by kernel_rfl) (fun _ _ _ h => h) (Or.inl ⟨by rfl, ?_⟩) (by assumption) ?_
                rotate_left
                · intro w hSw
                  (try dsimp only at hSw)
                  go_simp <;> with_reducible rfl
                try simp only [Act.put, List.getElem_toArray, List.getElem_cons_succ, List.getElem_cons_zero, List.setIfInBounds_toArray, List.set_cons_zero, List.set_cons_succ]
                refine wpAnyH_take (i := 7) (v := ?_) rfl (by kernel_rfl) (by kernel_rfl) (by kernel_rfl) (fun _ _ _ h => h) (Or.inl ⟨by rfl, ?_⟩) (by assumption) ?_
                rotate_left
                · intro w hSw
                  (try dsimp only at hSw)
                  go_simp <;> with_reducible rfl
                try simp only [Act.put, List.getElem_toArray, List.getElem_cons_succ, List.getElem_cons_zero, List.setIfInBounds_toArray, List.set_cons_zero, List.set_cons_succ]
                refine wpAnyH_take (i := 8) (v := ?_) rfl (by kernel_rfl) (by kernel_rfl) (by kernel_rfl) (fun _ _ _ h => h) (Or.inl ⟨by rfl, ?_⟩) (by assumption) ?_
                rotate_left
                · intro w hSw
                  (try dsimp only at hSw)
                  go_simp <;> with_reducible rfl
                try simp only [Act.put, List.getElem_toArray, List.getElem_cons_succ, List.getElem_cons_zero, List.setIfInBounds_toArray, List.set_cons_zero, List.set_cons_succ]
                refine wpAnyH_take (i := 9) (v := ?_) rfl (by kernel_rfl) (by kernel_rfl) (by kernel_rfl) (fun _ _ _ h => h) (Or.inl ⟨by rfl, ?_⟩) (by assumption) ?_
                rotate_left
                · intro w hSw
                  (try dsimp only at hSw)
                  go_simp <;> with_reducible rfl
                try simp only [Act.put, List.getElem_toArray, List.getElem_cons_succ, List.getElem_cons_zero, List.setIfInBounds_toArray, List.set_cons_zero, List.set_cons_succ]
                refine wpAnyH_take (i := 10) (v := ?_) rfl (by kernel_rfl) (by kernel_rfl) (by kernel_rfl) (fun _ _ _ h => h) (Or.inl ⟨by rfl, ?_⟩) (by assumption) ?_
                rotate_left
                · intro w hSw
                  (try dsimp only at hSw)
                  go_simp <;> with_reducible rfl
                try simp only [Act.put, List.getElem_toArray, List.getElem_cons_succ, List.getElem_cons_zero, List.setIfInBounds_toArray, List.set_cons_zero, List.set_cons_succ]
                refine wpAnyH_take (i := 11) (v := ?_) rfl (by kernel_rfl) (by kernel_rfl) (by kernel_rfl) (fun _ _ _ h => h) (Or.inl ⟨by rfl, ?_⟩) (by assumption) ?_
                rotate_left
                · intro w hSw
                  (try dsimp only at hSw)
                  go_simp <;> with_reducible rfl
                try simp only [Act.put, List.getElem_toArray, List.getElem_cons_succ, List.getElem_cons_zero, List.setIfInBounds_toArray, List.set_cons_zero, List.set_cons_succ]
                refine wpAnyH_ready (rs := [12]) (by kernel_rfl) (by simp) ?_
                refine AllReadyH.cons rfl (fun K hK => ?_) AllReadyH.nil
                go_simp
                (try go_wp2_with fail)
                refine (HOR2.out _ HB9B.out.drew).mono ?_
                rintro e wo ⟨rfl, hbo⟩
                have hbo2 : Below wb.heap.size wb wo := (Below.refl wb.heap.size wb).drew.trans (hbo : Below wb.heap.size wb.drew wo)
                have HBO := Lib.hid (HB9B.out.trans (hbo2.mono HB9B.out.size))
                have KEEP := Lib.hid (⟨(hbo2.cell (World.block_lt_of_cell? _ _ k1)).trans k1, (hbo2.cell (World.block_lt_of_cell? _ _ k2)).trans k2⟩ : wo.cell? (ad.add (r * 4)) = some (.string xp.head) ∧ wo.cell? (ad.add ((r + 1) * 4)) = some (.string x.head))
                clear hbo hbo2
                (try go_simp)
                refine hK.out _ _ ?_ (fun hHeld' => ?_)
                · (try dsimp only)
                  first | exact ⟨k1, k2⟩ | exact KEEP.out
                clear hK K hHeld
                have hHeld := hHeld'
                clear hHeld'
                refine wpAnyH_take (i := 13) (v := ?_) rfl (by kernel_rfl) (by kernel_rfl) (by kernel_rfl) (fun _ _ _ h => h) (Or.inl ⟨by rfl, ?_⟩) (by assumption) ?_
                rotate_left
                · intro w hSw
                  (try dsimp only at hSw)
                  go_simp <;> with_reducible rfl
                try simp only [Act.put, List.getElem_toArray, List.getElem_cons_succ, List.getElem_cons_zero, List.setIfInBounds_toArray, List.set_cons_zero, List.set_cons_succ]
                refine wpAnyH_take (i := 14) (v := ?_) rfl (by kernel_rfl) (by kernel_rfl) (by kernel_rfl) (fun _ _ _ h => h) (Or.inl ⟨by rfl, ?_⟩) (by assumption) ?_
                rotate_left
                · intro w hSw
                  (try dsimp only at hSw)
                  go_simp <;> with_reducible rfl
                try simp only [Act.put, List.getElem_toArray, List.getElem_cons_succ, List.getElem_cons_zero, List.setIfInBounds_toArray, List.set_cons_zero, List.set_cons_succ]
                refine wpAnyH_take (i := 15) (v := ?_) rfl (by kernel_rfl) (by kernel_rfl) (by kernel_rfl) (fun _ _ _ h => h) (Or.inl ⟨by rfl, ?_⟩) (by assumption) ?_
                rotate_left
                · intro w hSw
                  (try dsimp only at hSw)
                  go_simp <;> with_reducible rfl
                try simp only [Act.put, List.getElem_toArray, List.getElem_cons_succ, List.getElem_cons_zero, List.setIfInBounds_toArray, List.set_cons_zero, List.set_cons_succ]
                refine wpAnyH_take (i := 16) (v := ?_) rfl (by kernel_rfl) (by kernel_rfl) (by kernel_rfl) (fun _ _ _ h => h) (Or.inl ⟨by rfl, ?_⟩) (by assumption) ?_
                rotate_left
                · intro w hSw
                  (try dsimp only at hSw)
                  go_simp <;> with_reducible rfl
                try simp only [Act.put, List.getElem_toArray, List.getElem_cons_succ, List.getElem_cons_zero, List.setIfInBounds_toArray, List.set_cons_zero, List.set_cons_succ]
                refine wpAnyH_take (i := 17) (v := ?_) rfl (by kernel_rfl) (by kernel_rfl) (by kernel_rfl) (fun _ _ _ h => h) (Or.inl ⟨by rfl, ?_⟩) (by assumption) ?_
                rotate_left
                · intro w hSw
                  (try dsimp only at hSw)
                  go_simp <;> with_reducible rfl
                try simp only [Act.put, List.getElem_toArray, List.getElem_cons_succ, List.getElem_cons_zero, List.setIfInBounds_toArray, List.set_cons_zero, List.set_cons_succ]
                refine wpAnyH_done (by kernel_rfl) ?_ _
                go_wp2
                go_roundw
                case rel => exact ⟨r + 2, by omega, by go_num, HBO.out⟩
                case measure => simp [RowKit.intOf] <;> omega
            · obtain rfl : j = m := by omega
              have hwk := works_any wr
              go_wp2_with fail
              refine hwk.mono ?_
              rintro e w10 ⟨rfl, hb10⟩
              have HBF := Lib.hid ((HBW9.out.trans (HBJ.out.mono HBW9.out.size)).trans (hb10.mono (Nat.le_trans HBW9.out.size HBJ.out.size)))
              clear hb10 hwk
              go_wp2
              go_ret
              exact ⟨rfl, HBF.out⟩
        · obtain ⟨r, rfl⟩ : ∃ r, q = r + 1 := ⟨q - 1, by omega⟩
          rw [show (((r + 1 : Nat) : Int) - 1) = (r : Int) by omega]
          have hrl : r < ins.length := by rw [HML.out]; omega
          have hrI : (r : Int) < (m : Int) := by omega
          obtain ⟨ad, X1, y1, X2, y2, X3, y3, rfl, hx, hbk, hrun⟩ := HAI.out r hrl
          have hkp := keepS_below HBB.out (fun b (hb : b < wz.heap.size) => hb)
          have hxr := hx.keep (w' := wr) (fun _ h => h) hkp
          obtain ⟨q0, q1, q2, q3⟩ := hrun wr hkp
          have hdr : (ins.drop r).reverse = (ins.drop (r + 1)).reverse ++ [ins[r]] := by rw [List.drop_eq_getElem_cons hrl, List.reverse_cons]
          have hdl : (ins.drop (r + 1)).reverse.length ≤ 1000 := by rw [List.length_reverse, List.length_drop, HML.out]; omega
          generalize ins[r] = x at *
          have hown := HIB.out.own
          generalize hdn : (ins.drop (r + 1)).reverse.length = dn at *
          have hrn := reads_newk wr 35 [.string x.head, .slice X1 x.word.length y1, .slice X2 x.texts.length y2, .slice X3 x.see.length y3] 4 1 rfl
          have HDR := Lib.hid hdr; have HXR := Lib.hid hxr; have HO3 := Lib.hid hown; have HDN := Lib.hid hdn; have HRN := Lib.hid hrn
          have hsz2 := HBB.out.size
          clear hx hrun hbk hkp hxr hdr hown hdn hrn hrl
          go_wp2_with (at_builtin; go_loud (refine wpList_append_any _ rfl _ _ 23 rfl wz.heap.size 35 i0 (.agg #[.string ⟨#[]⟩, .slice none 0 0, .slice none 0 0, .slice none 0 0]) 4 88 Tryd.underlying23 hi hz0 hz1 hz2 rfl (by decide) _ _ _ rfl (HO3.out.alloc _) _ _ _ _ [.string x.head, .slice X1 x.word.length y1, .slice X2 x.texts.length y2, .slice X3 x.see.length y3] rfl HRN.out (by intro u hu; simp only [List.mem_cons, List.not_mem_nil, or_false] at hu; rcases hu with rfl | rfl | rfl | rfl <;> rfl) (by unfold maxLen; omega) (by first | omega | (simp; omega)) (by first | omega | (simp; omega)) ?_; intro v' w4 hown' hgrow hx'; have HG := Lib.hid hgrow; have HN := Lib.hid (InR.next HIB.out (Nat.le_refl _) HXR.out (by rw [HDN.out]; exact hown') hgrow hx' hsz2 (fun b hb => hb.elim)); clear hown' hgrow hx'))
          have hg4 : (wr.alloc (.cells #[.string x.head, .slice X1 x.word.length y1, .slice X2 x.texts.length y2, .slice X3 x.see.length y3] 35)).grownBy w4 u8.ownBlock := HG.out
          have hb4 : Below wz.heap.size wz w4 := (HBB.out.alloc HBB.out.size _).grown hg4 (by simp; omega) (fun b hb => (HO3.out.lt b hb).1)
          have HB4 := Lib.hid hb4
          clear hg4 hb4
          go_roundw
          case rel => exact ⟨r, _, by omega, rfl, by rw [HDR.out]; exact HN.out, HB4.out⟩
          case measure => simp [RowKit.intOf] <;> omega
end Go.Proofs.YtgkpoopiamicnaaDoor
