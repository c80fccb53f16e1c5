/-
  Layer 40: DictReaches: the walk. Conditions: letters and articles that are read.
-/
import Derived.Test.YtgkpoopiamicnaaDoorDtRo
import Derived.Test.YtgkpoopiamicnaaDoorDtRl
import Derived.Test.YtgkpoopiamicnaaDoorZaaq
namespace Go.Proofs.YtgkpoopiamicnaaDoor
open Go.RowKit Go.Lib

theorem ll_at {w : World} {S : Nat → Prop} {C : List (List ByteArray)} {A : Option Addr} {n c : Nat} (h : LlF w S C (.slice A n c)) {i : Nat} (hi : i < C.length) :
    ∃ ad A1 c1, A = some ad ∧ S ad.block ∧ C[i].length ≤ c1 ∧ c1 ≤ maxLen ∧ RowF w S 1 A1 C[i].length (C[i].map Value.string) ∧ w.cell? (ad.add i) = some (.slice A1 C[i].length c1) := by
  obtain ⟨ad, cs, e, hb, ⟨v, rfl, A1, c1, rfl, hc, hr⟩, hcell⟩ := h.at_ (fun x cs ⟨v, e, _⟩ => by rw [e]; rfl) hi
  exact ⟨ad, A1, c1, e, hb, hc.1, hc.2, hr, by have := hcell 0 _ rfl; rwa [Nat.mul_one, Nat.add_zero] at this⟩
theorem sumN_take_le {α : Type} {f : α → Nat} {l : List α} (i : Nat) : sumN f (l.take i) ≤ sumN f l := by
  have h : sumN f l = sumN f (l.take i) + sumN f (l.drop i) := by
    unfold sumN
    rw [← List.sum_append, ← List.map_append, List.take_append_drop]
  omega
theorem sumN_drop_le {α : Type} {f : α → Nat} {l : List α} (i : Nat) : sumN f (l.drop i) ≤ sumN f l := by
  have h : sumN f l = sumN f (l.take i) + sumN f (l.drop i) := by
    unfold sumN
    rw [← List.sum_append, ← List.map_append, List.take_append_drop]
  omega
theorem seeOf_mem {gs : Grps} {L : List Art} (hg : GoodD gs L) {i : Nat} (hi : i < L.length) : seeOf L L[i].head = L[i].see := by
  unfold seeOf
  rw [artOf_mem hg (List.getElem_mem hi)]
theorem head_mem {L : List Art} {i : Nat} (hi : i < L.length) : L[i].head ∈ headsL L := List.mem_map.2 ⟨_, List.getElem_mem hi, rfl⟩
theorem head_there {L : List Art} {i : Nat} (hi : i < L.length) : thereB L L[i].head = true := by unfold thereB; rw [memB_iff]; exact head_mem hi
set_option linter.unusedSimpArgs false in
set_option maxRecDepth 20000 in
set_option maxHeartbeats 8000000 in
theorem dictReaches_law (w : World) (A1 : Option Addr) (n1 c1 : Nat) (ss : List ByteArray) (hr : ReadS w w.heap.size A1 n1 ss) (hn : n1 ≤ 1048576) (hss : ∀ s ∈ ss, s.size ≤ 1048576)
    (v2 : Value) (l : List Art) (hl : ArtsF w (fun b => b < w.heap.size) l v2) (hok : ∀ x ∈ l, ArtOk x) (hll : l.length ≤ 1048576) :
    Calls Tryd.prog 3 #[.slice A1 n1 c1, v2] w (BoolPost w true) := by
  obtain ⟨A2, c2, rfl, hc2, hc3⟩ := hl.form
  have hm1 := made_at w A1 n1 c1 1048576 ss hr (by omega) (by omega) (by omega) hss A2 l.length c2 l _ hl (fun b h => h) hok (by omega)
  clear hl hok hr hss hc2 hc3
  generalize l.length = n2 at *
  go_enter Tryd.func3, Tryd.ntmps3
  go_wp2_with fail
  refine hm1.mono ?_
  rintro e w1 ⟨hbad, hgood, hb1⟩
  have HB1 := Lib.hid hb1
  have hwk := works_any w1
  by_cases h40 : n1 ≤ 40
  case neg =>
    have h40I : (40 : Int) < (n1 : Int) := by omega
    have hex : ∃ v, e = .returned v := by
      by_cases herr : newErr ss = 0
      · obtain ⟨g, B, D, e1, -⟩ := hgood herr; exact ⟨_, e1⟩
      · exact ⟨_, hbad herr⟩
    obtain ⟨v, rfl⟩ := hex
    clear hm1 hbad hgood hb1
    go_wp2_with fail
    refine hwk.mono ?_
    rintro e w2 ⟨rfl, hb2⟩
    have HB2 := Lib.hid (HB1.out.trans (hb2.mono HB1.out.size))
    clear hb2 hwk
    go_wp2
    go_ret
    exact ⟨rfl, HB2.out⟩
  case pos =>
  have h40I : ¬ (40 : Int) < (n1 : Int) := by omega
  by_cases h30 : n2 ≤ 30
  case neg =>
    have h30I : (30 : Int) < (n2 : Int) := by omega
    have hex : ∃ v, e = .returned v := by
      by_cases herr : newErr ss = 0
      · obtain ⟨g, B, D, e1, -⟩ := hgood herr; exact ⟨_, e1⟩
      · exact ⟨_, hbad herr⟩
    obtain ⟨v, rfl⟩ := hex
    clear hm1 hbad hgood hb1
    go_wp2_with fail
    refine hwk.mono ?_
    rintro e w2 ⟨rfl, hb2⟩
    have HB2 := Lib.hid (HB1.out.trans (hb2.mono HB1.out.size))
    clear hb2 hwk
    go_wp2
    go_ret
    exact ⟨rfl, HB2.out⟩
  case pos =>
  have h30I : ¬ (30 : Int) < (n2 : Int) := by omega
  by_cases herr : newErr ss = 0
  case neg =>
    obtain rfl := hbad herr
    clear hm1 hbad hgood hb1
    go_wp2_with fail
    refine hwk.mono ?_
    rintro e w2 ⟨rfl, hb2⟩
    have HB2 := Lib.hid (HB1.out.trans (hb2.mono HB1.out.size))
    clear hb2 hwk
    go_wp2
    go_ret
    exact ⟨rfl, HB2.out⟩
  case pos =>
  obtain ⟨g, B, D, rfl, hB, hd⟩ := hgood herr
  have hdi := hd.dict
  clear hm1 hbad hgood hb1 hd hwk
  generalize groupsB ss = gs at *
  generalize putAll gs l = L at *
  have hgd := hdi.good
  have hli := list_in hdi
  have HD := Lib.hid hdi; have HG := Lib.hid hgd
  have hlen := hgd.len
  clear hdi hgd
  go_wp2_with fail
  refine hli.mono ?_
  rintro e w2 ⟨vm, rfl, hvm, hb2⟩
  have hcy := cycles_in (HD.out.below hb2)
  obtain ⟨AM, cM, rfl, -, -⟩ := hvm.form
  have HB2 := Lib.hid hb2; have HVM := Lib.hid hvm
  clear hli hb2 hvm
  generalize hLm : L.length = m at *
  have HLM := Lib.hid hLm
  clear hLm
  go_wp2_with fail
  refine hcy.mono ?_
  rintro e w3 ⟨vc, rfl, hvc, hb3⟩
  obtain ⟨AC, cC, rfl, hcc1, hcc2⟩ := hvc.form
  have hb13 := HB2.out.trans (hb3.mono HB2.out.size)
  have hvm3 : ArtsF w3 (fun b => b < w3.heap.size) L (.slice AM m cM) := HVM.out.keep (fun b hb => Nat.lt_of_lt_of_le hb.2 hb3.size) (keepS_below hb3 fun b hb => hb.2)
  have hvc3 : LlF w3 (fun b => b < w3.heap.size) (cyclesL L (headsL L)) (.slice AC (cyclesL L (headsL L)).length cC) := hvc.keep (fun b hb => hb.2) (fun _ _ => rfl)
  have HAM := Lib.hid (fun (i : Nat) (hi : i < L.length) => art_at hvm3 hi)
  have HAC := Lib.hid (fun (i : Nat) (hi : i < (cyclesL L (headsL L)).length) => ll_at hvc3 hi)
  have HD3 := Lib.hid ((HD.out.below HB2.out).below hb3)
  have HW3 := Lib.hid (HB1.out.trans (hb13.mono HB1.out.size))
  have htot := cyc_sum (L := L)
  have hown := fun (s : ByteArray) (hs : s ∈ headsL L) => ownK_all (L := L) HG.out hs
  have hcall := fun (c : List ByteArray) (hc : c ∈ cyclesL L (headsL L)) (s t : ByteArray) (hs : s ∈ c) (ht : t ∈ c) => cyc_all hc hs ht
  have hle : sumN (ownK (cyclesL L (headsL L))) (headsL L) ≤ 1024 := by
    have h1 := sumN_le (f := ownK (cyclesL L (headsL L))) (b := 1) (l := headsL L) fun s hs => by rw [hown s hs]; split <;> omega
    rw [headsL_len, HLM.out] at h1
    omega
  have HTOT := Lib.hid htot; have HOWN := Lib.hid hown; have HCALL := Lib.hid hcall; have HLE := Lib.hid hle
  clear hcy hvc hb3 hb13 hvm3 hvc3 htot hown hcall hle HVM
  generalize hC : cyclesL L (headsL L) = C at *
  obtain ⟨q, hq⟩ : ∃ q, C.length = q := ⟨_, rfl⟩
  have HQ := Lib.hid hq
  have hqn : q ≤ 9223372036854775807 := by unfold maxLen at hcc2; omega
  rw [hq] at hcc1 ⊢
  clear hq hC hcc1 hcc2
  go_wp2
  go_loopw [8, 9] (fun v i wr => ∃ k : Nat, k ≤ q ∧ i = .int .i64 k ∧ v = .int .i64 (sumN List.length (C.take k) : Nat) ∧ w3 = wr) (fun _ i _ => q - (RowKit.intOf i).toNat)
  case atStart => exact ⟨0, by omega, rfl, rfl, rfl⟩
  case round =>
    obtain ⟨k, hk, rfl, rfl, rfl⟩ := hrel
    by_cases hlt : k < q
    · have hkI : (k : Int) < (q : Int) := by omega
      have hkl : k < C.length := by rw [HQ.out]; exact hlt
      obtain ⟨ad, Ax, cx, rfl, -, -, -, -, hcell⟩ := HAC.out k hkl
      have hst := sumN_take (f := List.length) hkl
      have hbd := sumN_take_le (f := List.length) (l := C) (k + 1)
      have h0 := HTOT.out; have h1 := HLE.out
      obtain ⟨a, ha⟩ : ∃ a, sumN List.length (C.take k) = a := ⟨_, rfl⟩
      obtain ⟨b, hb⟩ : ∃ b, C[k].length = b := ⟨_, rfl⟩
      rw [ha, hb] at hst
      rw [hb] at hcell
      rw [ha]
      have hab : a + b ≤ 1024 := by omega
      have HST := Lib.hid hst
      clear hst hbd h0 h1 ha hb
      go_wp2
      go_roundw
      case rel => exact ⟨k + 1, by omega, by go_num, by rw [HST.out]; go_num, trivial⟩
      case measure => simp [RowKit.intOf]; omega
    · obtain rfl : q = k := by omega
      rw [show C.take q = C by rw [List.take_of_length_le (by rw [HQ.out]; exact Nat.le_refl _)], HTOT.out]
      have hle := HLE.out
      go_wp2
      go_loopw [8, 10, 11, 12, 13, 14, 15, 16, 17, 18, 19, 20, 21] (fun v i _ _ _ _ _ _ _ _ _ _ _ wr => ∃ k : Nat, k ≤ m ∧ i = .int .i64 k ∧ v = .int .i64 (sumN (ownK C) ((headsL L).drop k) : Nat) ∧ Below w3.heap.size w3 wr) (fun _ i _ _ _ _ _ _ _ _ _ _ _ _ => m - (RowKit.intOf i).toNat)
      case atStart => exact ⟨0, by omega, rfl, by rw [List.drop_zero], Below.refl _ _⟩
      case round =>
        obtain ⟨k, hk, rfl, rfl, hb⟩ := hrel
        have HB := Lib.hid hb
        obtain ⟨a, ha⟩ : ∃ a, sumN (ownK C) ((headsL L).drop k) = a := ⟨_, rfl⟩
        have ha2 : a ≤ 1024 := by have h1 := sumN_drop_le (f := ownK C) (l := headsL L) k; have h2 := HLE.out; omega
        rw [ha]
        have HA := Lib.hid ha
        clear hb hle ha
        by_cases hlt : k < m
        · have hkI : (k : Int) < (m : Int) := by omega
          have hkl : k < L.length := by rw [HLM.out]; exact hlt
          have hkh : k < (headsL L).length := by rw [headsL_len]; exact hkl
          obtain ⟨ad, X1, y1, X2, y2, X3, y3, rfl, hx, hbk, hrun⟩ := HAM.out k hkl
          have hth : ∀ i (hi : i < L.length) W, Below w3.heap.size w3 W → W.cell? (ad.add (i * 4)) = some (.string L[i].head) := fun i hi W hW => by
            obtain ⟨ad2, Y1, z1, Y2, z2, Y3, z3, e, -, -, hrun2⟩ := HAM.out i hi
            injection e with e
            subst e
            exact (hrun2 W (keepS_below hW fun b hb => hb)).1
          have hsc : ∀ W, Below w3.heap.size w3 W → W.cell? ⟨(ad.add (k * 4)).block, (ad.add (k * 4)).off + 3, none⟩ = some (.slice X3 L[k].see.length y3) := fun W hW => (hrun W (keepS_below hW fun b hb => hb)).2.2.2
          obtain ⟨v1, v2, v3, e, -, -, A9, c9, e9, hcs, hrs⟩ := hx
          simp only [List.cons.injEq, and_true, true_and] at e
          obtain ⟨-, -, e⟩ := e
          rw [← e] at e9
          injection e9 with e91 e92 e93
          subst e91 e93
          have hsr : ∀ W, Below w3.heap.size w3 W → ReadS W W.heap.size X3 L[k].see.length L[k].see := fun W hW => show ReadS _ _ _ _ _ from ((hrs.reads fun b hb => hb).below hW).more hW.size
          have hsm := seeOf_mem HG.out hkl
          have hhm := head_mem hkl
          have hsz := HG.out.hsize _ hhm
          have hoz := (HG.out.arts _ (List.getElem_mem hkl)).ok.see
          have hdr : a = ownK C L[k].head + sumN (ownK C) ((headsL L).drop (k + 1)) := by
            have h := sumN_drop (f := ownK C) hkh
            rw [HA.out, heads_get hkh] at h
            exact h
          have hfe := fromE_zero (head_there hkl)
          have hfrom := from_in (HD3.out.below HB.out) L[k].head (by omega)
          rw [hfe] at hfrom
          have hthk := hth k hkl wr HB.out
          have HTK := Lib.hid (hth k hkl)
          have HTH := Lib.hid hth; have HSC := Lib.hid hsc; have HSR := Lib.hid hsr; have HSM := Lib.hid hsm; have HHM := Lib.hid hhm; have HOZ := Lib.hid hoz; have HDR := Lib.hid hdr; have HTR := Lib.hid (head_there hkl)
          have hnse : L[k].see.length ≤ 9223372036854775807 := by unfold maxLen at hcs; omega
          clear hbk hrun hth hsc e hcs hrs hsr hsm hhm hoz hdr hfe hkh
          generalize L[k].head = s at *
          generalize L[k].see = sl at *
          obtain ⟨ns, hns⟩ : ∃ x, sl.length = x := ⟨_, rfl⟩
          have HNS := Lib.hid hns
          rw [hns] at HSC HSR hnse
          clear hns
          go_wp2_with fail
          refine hfrom.mono ?_
          rintro e w5 ⟨vf, rfl, hof, hb5⟩
          obtain ⟨AF, cF, rfl, hcf1, hcf2⟩ := ownsRow_form hof
          have HB5 := Lib.hid (HB.out.trans (hb5.mono HB.out.size))
          have hrf : ReadS w5 w5.heap.size AF (fromL L s).length (fromL L s) := show ReadS _ _ _ _ _ from Reads.of_own hof
          have HRF := Lib.hid hrf
          have hnf : (fromL L s).length ≤ 9223372036854775807 := by unfold maxLen at hcf2; omega
          have hfm := fun t (ht : thereB L t = true) => memB_from (L := L) HTR.out ht
          have HFM := Lib.hid hfm
          clear hfrom hof hb5 hcf1 hcf2 hrf hfm hthk
          obtain ⟨nf, hnf0⟩ : ∃ x, (fromL L s).length = x := ⟨_, rfl⟩
          rw [hnf0] at HRF hnf ⊢
          clear hnf0
          go_wp2
          go_loopw [13, 14, 15, 16, 17, 18] (fun i _ _ _ _ _ wr => ∃ j : Nat, j ≤ m ∧ i = .int .i64 j ∧ Below w5.heap.size w5 wr) (fun i _ _ _ _ _ _ => m - (RowKit.intOf i).toNat)
          case atStart => exact ⟨0, by omega, rfl, Below.refl _ _⟩
          case round =>
            obtain ⟨j, hj, rfl, hbj⟩ := hrel
            have HBJ := Lib.hid hbj; have HB3 := Lib.hid (HB5.out.trans (hbj.mono HB5.out.size))
            clear hbj
            by_cases hltj : j < m
            · have hjI : (j : Int) < (m : Int) := by omega
              have hjl : j < L.length := by rw [HLM.out]; exact hltj
              have hct := HTH.out j hjl
              have htt := head_there hjl
              have hbs := by_step (L := L) (s := s) htt
              have hba := byB_all (L := L) (s := s) htt
              rw [HSM.out, HNS.out] at hba
              rw [HSM.out] at hbs
              have hfr := HFM.out _ htt
              have hh1 := has_any wr.drew X3 ns y3 sl L[j].head (HSR.out wr.drew HB3.out.drew) hnse
              have hh2 := has_any wr.drew AF nf cF (fromL L s) L[j].head (show ReadS _ _ _ _ _ from (Reads.below HRF.out HBJ.out.drew).more HBJ.out.drew.size) hnf
              rw [hfr] at hh2
              have hc0 := HSC.out wr HB3.out
              have hc1 := hct wr HB3.out
              have HCT := Lib.hid hct; have HBS := Lib.hid hbs; have HBA := Lib.hid hba; have HFR := Lib.hid hfr; have HTT := Lib.hid htt
              clear hct hbs hba hfr htt
              generalize L[j].head = t at *
              go_upto_region 20 with fail
              refine region_tail 10 (by kernel_rfl) (by kernel_rfl) ?_
              simp only [List.take_succ_cons, List.take_zero, List.drop_succ_cons, List.drop_zero]
              iterate 10 still_step
              refine wpStill_nil ?_
              go_wp2_with fail
              refine hh1.mono ?_
              rintro e w6 ⟨rfl, rfl⟩
              obtain ⟨W6, hW6⟩ : ∃ W, W = wr := ⟨_, rfl⟩
              subst hW6
              clear hh1
              cases hst : memB sl t with
              | true =>
                have hrt := HBS.out hst
                rw [hrt] at hh2
                clear hst
                go_wp2_with fail
                refine hh2.mono ?_
                rintro e w6 ⟨rfl, rfl⟩
                go_wp2
                go_loopw [15, 16, 17, 18] (fun b i _ _ W => b = .bool true ∧ i = .int .i64 0 ∧ W6.drew = W) (fun _ _ _ _ _ => 0)
                case atStart => exact ⟨rfl, rfl, rfl⟩
                case round =>
                  obtain ⟨rfl, rfl, rfl⟩ := hrel
                  have hfin : (0 : Int) < (ns : Int) ∨ ¬ (0 : Int) < (ns : Int) := by omega
                  rcases hfin with hz | hz <;>
                  · go_wp2_with fail
                    refine hh2.mono ?_
                    rintro e w6 ⟨rfl, rfl⟩
                    go_wp2
                    go_roundw
                    case rel => exact ⟨j + 1, by omega, by go_num, HBJ.out.drew⟩
                    case measure => simp [RowKit.intOf]; omega
              | false =>
                have hb0 : byB L s t 0 = false := by rw [byB_zero, HSM.out]; exact hst
                have HB0 := Lib.hid hb0
                clear hst hh2 hb0 hc0 hc1
                go_wp2
                go_loopw [15, 16, 17, 18] (fun b i _ _ W => ∃ p : Nat, p ≤ ns ∧ b = .bool (byB L s t p) ∧ i = .int .i64 p ∧ Below w5.heap.size w5 W) (fun _ i _ _ _ => ns - (RowKit.intOf i).toNat)
                case atStart => exact ⟨0, by omega, by rw [HB0.out], rfl, HBJ.out.drew⟩
                case round =>
                  obtain ⟨p, hp, rfl, rfl, hbp⟩ := hrel
                  have HBP := Lib.hid hbp; have HP3 := Lib.hid (HB5.out.trans (hbp.mono HB5.out.size))
                  clear hbp
                  have hc0 := HSC.out wr HP3.out
                  have hc1 := HCT.out wr HP3.out
                  have hh2 := has_any wr AF nf cF (fromL L s) t (show ReadS _ _ _ _ _ from (Reads.below HRF.out HBP.out).more HBP.out.size) hnf
                  rw [HFR.out] at hh2
                  cases hby : byB L s t p with
                  | true =>
                    have hrt : reachB L s t = true := by rw [← HBA.out]; exact byB_mono hp hby
                    rw [hrt] at hh2
                    clear hby hrt
                    have hfin : (p : Int) < (ns : Int) ∨ ¬ (p : Int) < (ns : Int) := by omega
                    rcases hfin with hz | hz <;>
                    · go_wp2_with fail
                      refine hh2.mono ?_
                      rintro e w6 ⟨rfl, rfl⟩
                      go_wp2
                      go_roundw
                      case rel => exact ⟨j + 1, by omega, by go_num, HBP.out⟩
                      case measure => simp [RowKit.intOf]; omega
                  | false =>
                    by_cases hpl : p < ns
                    · have hpI : (p : Int) < (ns : Int) := by omega
                      have hps : p < sl.length := by rw [HNS.out]; exact hpl
                      obtain ⟨ay, rfl, hay, hcy⟩ := (HSR.out wr HP3.out).at_ (k := p) hps
                      have hbn := byB_succ (L := L) (s := s) (t := t) (j := p) (by rw [HSM.out]; exact hps)
                      have hue : ∀ h : p < (seeOf L s).length, (seeOf L s)[p] = sl[p] := fun h => by congr 1
                      rw [hue, hby, Bool.false_or] at hbn
                      have hys := HOZ.out _ (List.getElem_mem hps)
                      have hfr2 := from_in ((HD3.out.below HP3.out)) sl[p] hys
                      have HBN := Lib.hid hbn
                      clear hbn hue hby hh2
                      generalize sl[p] = y at *
                      go_wp2_with fail
                      refine hfr2.mono ?_
                      rintro e w7 ⟨vn, rfl, hon, hb7⟩
                      obtain ⟨AN, cN, rfl, hcn1, hcn2⟩ := ownsRow_form hon
                      have hh4 := has_any w7 AN (fromL L y).length cN (fromL L y) t (show ReadS _ _ _ _ _ from Reads.of_own hon) (by unfold maxLen at hcn2; omega)
                      have hbp7 := HBP.out.trans (hb7.mono HBP.out.size)
                      have hc7 := HCT.out w7 (HB5.out.trans (hbp7.mono HB5.out.size))
                      have HBP7 := Lib.hid hbp7
                      clear hon hb7 hbp7 hfr2 hcn1 hcn2 hc0 hc1 hcy hay
                      by_cases hfy : fromE L y = 0
                      · rw [hfy] at HBN ⊢
                        go_wp2_with fail
                        refine hh4.mono ?_
                        rintro e w8 ⟨rfl, rfl⟩
                        go_wp2
                        go_roundw
                        case rel => exact ⟨p + 1, by omega, by rw [HBN.out]; simp, by go_num, HBP7.out⟩
                        case measure => simp [RowKit.intOf]; omega
                      · have hfyI : (fromE L y == 0) = false := beq_false_of_ne hfy
                        clear hh4
                        go_wp2
                        go_roundw
                        case rel => exact ⟨p + 1, by omega, by rw [HBN.out, decide_eq_false hfy]; simp, by go_num, HBP7.out⟩
                        case measure => simp [RowKit.intOf]; omega
                    · obtain rfl : ns = p := by omega
                      have hrt : reachB L s t = false := by rw [← HBA.out]; exact hby
                      rw [hrt] at hh2
                      clear hby hrt
                      go_wp2_with fail
                      refine hh2.mono ?_
                      rintro e w6 ⟨rfl, rfl⟩
                      go_wp2
                      go_roundw
                      case rel => exact ⟨j + 1, by omega, by go_num, HBP.out⟩
                      case measure => simp [RowKit.intOf]; omega
            · obtain rfl : m = j := by omega
              obtain ⟨W5, hW5⟩ : ∃ W, W = wr := ⟨_, rfl⟩
              subst hW5
              go_wp2
              go_loopw [19, 20, 21] (fun o i _ W => ∃ p : Nat, p ≤ q ∧ i = .int .i64 p ∧ o = .int .i64 (ownK (C.take p) s : Nat) ∧ Below w5.heap.size w5 W) (fun _ i _ _ => q - (RowKit.intOf i).toNat)
              case atStart => exact ⟨0, by omega, rfl, rfl, HBJ.out⟩
              case round =>
                obtain ⟨p, hp, rfl, rfl, hbp⟩ := hrel
                have HBP := Lib.hid hbp; have HP3 := Lib.hid (HB5.out.trans (hbp.mono HB5.out.size))
                clear hbp
                have hc1 := HTK.out wr HP3.out
                by_cases hpl : p < q
                · have hpI : (p : Int) < (q : Int) := by omega
                  have hpc : p < C.length := by rw [HQ.out]; exact hpl
                  obtain ⟨ac, Ac, cc, rfl, hac, hcc1, hcc2, hrow, hcell⟩ := HAC.out p hpc
                  have hcw : ∀ W, Below w3.heap.size w3 W → W.cell? (ac.add p) = some (.slice Ac C[p].length cc) := fun W hW => (hW.cell (p := ac.add p) (by rw [block_of_add]; exact hac)).trans hcell
                  have hrw : ∀ W, Below w3.heap.size w3 W → ReadS W W.heap.size Ac C[p].length C[p] := fun W hW => show ReadS _ _ _ _ _ from ((hrow.reads fun b hb => hb).below hW).more hW.size
                  have hmem := List.getElem_mem hpc
                  have hall := fun (hs : s ∈ C[p]) t (ht : t ∈ C[p]) => HCALL.out C[p] hmem s t hs ht
                  have htk : ownK (C.take (p + 1)) s = ownK (C.take p) s + if memB C[p] s = true then 1 else 0 := by
                    unfold ownK
                    rw [List.take_succ_eq_append_getElem hpc, List.countP_append, List.countP_cons, List.countP_nil, Nat.zero_add]
                  have hob : ownK (C.take p) s ≤ p := by
                    unfold ownK
                    exact Nat.le_trans List.countP_le_length (by rw [List.length_take]; omega)
                  have hncl : C[p].length ≤ 9223372036854775807 := by unfold maxLen at hcc2; omega
                  have HCW := Lib.hid hcw; have HRW := Lib.hid hrw; have HALL := Lib.hid hall
                  clear hac hcc1 hcc2 hrow hcell hcw hrw hmem hall
                  generalize C[p] = cl at *
                  obtain ⟨o, ho⟩ : ∃ o, ownK (C.take p) s = o := ⟨_, rfl⟩
                  rw [ho] at htk hob ⊢
                  obtain ⟨nc, hnc⟩ : ∃ x, cl.length = x := ⟨_, rfl⟩
                  have HNC := Lib.hid hnc
                  rw [hnc] at HCW HRW hncl
                  clear ho hnc
                  have hh3 := has_any wr.drew Ac nc cc cl s (HRW.out wr.drew HP3.out.drew) hncl
                  have hx0 := HCW.out wr HP3.out
                  go_upto_region 35 with fail
                  refine region_tail 9 (by kernel_rfl) (by kernel_rfl) ?_
                  simp only [List.take_succ_cons, List.take_zero, List.drop_succ_cons, List.drop_zero]
                  iterate 9 still_step
                  refine wpStill_nil ?_
                  go_wp2_with fail
                  refine hh3.mono ?_
                  rintro e w6 ⟨rfl, rfl⟩
                  obtain ⟨W6, hW6⟩ : ∃ W, W = wr := ⟨_, rfl⟩
                  subst hW6
                  clear hh3 hx0
                  cases hmb : memB cl s with
                  | false =>
                    rw [hmb, if_neg (by decide), Nat.add_zero] at htk
                    have HTK2 := Lib.hid htk
                    clear htk hmb
                    go_wp2
                    go_roundw
                    case rel => exact ⟨p + 1, by omega, by go_num, by rw [HTK2.out, Nat.add_zero], HBP.out.drew⟩
                    case measure => simp [RowKit.intOf]; omega
                  | true =>
                    rw [hmb, if_pos rfl] at htk
                    have HTK2 := Lib.hid htk
                    have HALL2 := Lib.hid (HALL.out (memB_iff.1 hmb))
                    clear htk hmb
                    go_wp2
                    go_loopw [21] (fun i W => ∃ r : Nat, r ≤ nc ∧ i = .int .i64 r ∧ Below w5.heap.size w5 W) (fun i _ => nc - (RowKit.intOf i).toNat)
                    case atStart => exact ⟨0, by omega, rfl, HBP.out.drew⟩
                    case round =>
                      obtain ⟨r, hr, rfl, hbr⟩ := hrel
                      have HBR := Lib.hid hbr; have HR3 := Lib.hid (HB5.out.trans (hbr.mono HB5.out.size))
                      clear hbr
                      have hx0 := HCW.out wr HR3.out
                      by_cases hrl : r < nc
                      · have hrI : (r : Int) < (nc : Int) := by omega
                        have hrc : r < cl.length := by rw [HNC.out]; exact hrl
                        obtain ⟨ay, rfl, hay, hcy⟩ := (HRW.out wr HR3.out).at_ (k := r) hrc
                        have hh6 := has_any wr AF nf cF (fromL L s) cl[r] (show ReadS _ _ _ _ _ from (Reads.below HRF.out HBR.out).more HBR.out.size) hnf
                        rw [HALL2.out _ (List.getElem_mem hrc)] at hh6
                        generalize cl[r] = y at *
                        go_wp2_with fail
                        refine hh6.mono ?_
                        rintro e w7 ⟨rfl, rfl⟩
                        go_wp2
                        go_roundw
                        case rel => exact ⟨r + 1, by omega, by go_num, HBR.out⟩
                        case measure => simp [RowKit.intOf]; omega
                      · obtain rfl : nc = r := by omega
                        go_wp2
                        go_roundw
                        case rel => exact ⟨p + 1, by omega, by go_num, by rw [HTK2.out]; go_num, HBR.out⟩
                        case measure => simp [RowKit.intOf]; omega
                · obtain rfl : q = p := by omega
                  have how := HOWN.out s HHM.out
                  have htl : C.take q = C := List.take_of_length_le (by rw [HQ.out]; exact Nat.le_refl _)
                  rw [htl]
                  have hdr := HDR.out
                  obtain ⟨b, hb⟩ : ∃ b, sumN (ownK C) ((headsL L).drop (k + 1)) = b := ⟨_, rfl⟩
                  have HBQ := Lib.hid hb
                  rw [hb] at hdr
                  have hh5 := has_any wr AF nf cF (fromL L s) s (show ReadS _ _ _ _ _ from (Reads.below HRF.out HBP.out).more HBP.out.size) hnf
                  rw [HFM.out _ HTR.out] at hh5
                  clear htl hb
                  cases hrr : reachB L s s with
                  | true =>
                    rw [hrr] at hh5
                    rw [hrr, if_pos rfl] at how
                    rw [how] at hdr ⊢
                    have HA1 := Lib.hid (show (a : Int) - 1 = (b : Nat) by omega)
                    clear how hrr hdr
                    go_wp2_with fail
                    refine hh5.mono ?_
                    rintro e w6 ⟨rfl, rfl⟩
                    go_wp2
                    go_roundw
                    case rel => exact ⟨k + 1, by omega, by go_num, by rw [HBQ.out, ← HA1.out], HP3.out⟩
                    case measure => simp [RowKit.intOf]; omega
                  | false =>
                    rw [hrr] at hh5
                    rw [hrr, if_neg (by decide)] at how
                    rw [how] at hdr ⊢
                    have HA1 := Lib.hid (show (a : Int) = (b : Nat) by omega)
                    clear how hrr hdr
                    go_wp2_with fail
                    refine hh5.mono ?_
                    rintro e w6 ⟨rfl, rfl⟩
                    go_wp2
                    go_roundw
                    case rel => exact ⟨k + 1, by omega, by go_num, by rw [HBQ.out, ← HA1.out], HP3.out⟩
                    case measure => simp [RowKit.intOf]; omega
        · obtain rfl : m = k := by omega
          have ha0 : a = 0 := by
            rw [← HA.out, List.drop_of_length_le (by rw [headsL_len, HLM.out]; exact Nat.le_refl _)]; rfl
          subst ha0
          have hwk := works_any wr
          go_wp2_with fail
          refine hwk.mono ?_
          rintro e w9 ⟨rfl, hb9⟩
          have HB9 := Lib.hid ((HW3.out.trans (HB.out.mono HW3.out.size)).trans (hb9.mono (HW3.out.trans (HB.out.mono HW3.out.size)).size))
          clear hb9 hwk
          go_wp2
          go_ret
          exact ⟨rfl, HB9.out⟩
end Go.Proofs.YtgkpoopiamicnaaDoor
