/-
  Layer 40: DictRefers: plainly and the walk. Conditions: letters and articles that are read.
-/
import Derived.Test.YtgkpoopiamicnaaDoorDtMi
import Derived.Test.YtgkpoopiamicnaaDoorDtBk
import Derived.Test.YtgkpoopiamicnaaDoorDtRp
namespace Go.Proofs.YtgkpoopiamicnaaDoor
open Go.RowKit Go.Lib

/-- How many of the first k heads refer to s. -/
def refN (L : List Art) (s : ByteArray) (k : Nat) : Nat := (((headsL L).take k).filter fun x => memB (seeOf L x) s).length
theorem refN_succ {L : List Art} {s : ByteArray} {k : Nat} (hk : k < (headsL L).length) : refN L s (k + 1) = refN L s k + if memB (seeOf L (headsL L)[k]) s = true then 1 else 0 := by
  unfold refN
  rw [List.take_succ_eq_append_getElem hk, List.filter_append, List.length_append]
  by_cases h : memB (seeOf L (headsL L)[k]) s = true
  · rw [if_pos h, List.filter_cons_of_pos (by exact h)]; rfl
  · rw [if_neg h, List.filter_cons_of_neg (by exact h)]; rfl
theorem refN_le {L : List Art} {s : ByteArray} {k : Nat} : refN L s k ≤ k := Nat.le_trans (List.length_filter_le _ _) (by rw [List.length_take]; omega)
theorem refN_all {L : List Art} {s : ByteArray} {k : Nat} (hk : L.length ≤ k) : refN L s k = (backL L s).length := by
  unfold refN backL
  rw [List.take_of_length_le (by rw [headsL_len]; exact hk)]
theorem memB_back {L : List Art} {s x : ByteArray} (hx : x ∈ headsL L) : memB (backL L s) x = memB (seeOf L x) s := by
  unfold backL
  rw [memB_filter, memB_iff.2 hx, Bool.true_and]
theorem memB_miss {L : List Art} {s : ByteArray} {m : List ByteArray} (hm : ∀ t, t ∈ m ↔ t ∈ missAll L (headsL L)) : memB m s = (!thereB L s && decide (0 < (backL L s).length)) := by
  rw [Bool.eq_iff_iff, memB_iff, hm, Bool.and_eq_true, Bool.not_eq_true', decide_eq_true_iff, List.length_pos_iff_exists_mem]
  unfold missAll missOf backL
  rw [List.mem_flatMap]
  constructor
  · rintro ⟨x, hx, h⟩
    obtain ⟨h1, h2⟩ := List.mem_filter.1 h
    exact ⟨by simpa using h2, x, List.mem_filter.2 ⟨hx, memB_iff.2 h1⟩⟩
  · rintro ⟨h1, x, h⟩
    obtain ⟨h2, h3⟩ := List.mem_filter.1 h
    exact ⟨x, h2, List.mem_filter.2 ⟨memB_iff.1 h3, by simpa using h1⟩⟩
set_option linter.unusedSimpArgs false in
set_option maxRecDepth 20000 in
set_option maxHeartbeats 8000000 in
theorem dictRefers_law (w : World) (A1 : Option Addr) (n1 c1 : Nat) (ss : List ByteArray) (hr : ReadS w w.heap.size A1 n1 ss) (hn : n1 ≤ 1048576) (hss : ∀ s ∈ ss, s.size ≤ 1048576)
    (v2 : Value) (l : List Art) (hl : ArtsF w (fun b => b < w.heap.size) l v2) (hok : ∀ x ∈ l, ArtOk x) (hll : l.length ≤ 1048576) (s : ByteArray) (hs : s.size ≤ 1048576) :
    Calls Tryd.prog 5 #[.slice A1 n1 c1, v2, .string s] w (BoolPost w true) := by
  obtain ⟨A2, c2, rfl, hc2, hc3⟩ := hl.form
  have hm1 := made_at w A1 n1 c1 1048576 ss hr (by omega) (by omega) (by omega) hss A2 l.length c2 l _ hl (fun b h => h) hok (by omega)
  clear hl hok hr hss hc2 hc3
  generalize l.length = n2 at *
  go_enter Tryd.func5, Tryd.ntmps5
  go_wp2_with fail
  refine hm1.mono ?_
  rintro e w1 ⟨hbad, hgood, hb1⟩
  have HB1 := Lib.hid hb1
  have hwk := works_any w1
  by_cases h40 : n1 ≤ 40
  case neg =>
    have h40I : (40 : Int) < (n1 : Int) := by omega
    have hex : ∃ v, e = .returned v := by
      by_cases herr : newErr ss = 0
      · obtain ⟨g, B, D, e1, -⟩ := hgood herr; exact ⟨_, e1⟩
      · exact ⟨_, hbad herr⟩
    obtain ⟨v, rfl⟩ := hex
    clear hm1 hbad hgood hb1
    go_wp2_with fail
    refine hwk.mono ?_
    rintro e w2 ⟨rfl, hb2⟩
    have HB2 := Lib.hid (HB1.out.trans (hb2.mono HB1.out.size))
    clear hb2 hwk
    go_wp2
    go_ret
    exact ⟨rfl, HB2.out⟩
  case pos =>
  have h40I : ¬ (40 : Int) < (n1 : Int) := by omega
  by_cases h30 : n2 ≤ 30
  case neg =>
    have h30I : (30 : Int) < (n2 : Int) := by omega
    have hex : ∃ v, e = .returned v := by
      by_cases herr : newErr ss = 0
      · obtain ⟨g, B, D, e1, -⟩ := hgood herr; exact ⟨_, e1⟩
      · exact ⟨_, hbad herr⟩
    obtain ⟨v, rfl⟩ := hex
    clear hm1 hbad hgood hb1
    go_wp2_with fail
    refine hwk.mono ?_
    rintro e w2 ⟨rfl, hb2⟩
    have HB2 := Lib.hid (HB1.out.trans (hb2.mono HB1.out.size))
    clear hb2 hwk
    go_wp2
    go_ret
    exact ⟨rfl, HB2.out⟩
  case pos =>
  have h30I : ¬ (30 : Int) < (n2 : Int) := by omega
  by_cases herr : newErr ss = 0
  case neg =>
    obtain rfl := hbad herr
    clear hm1 hbad hgood hb1
    go_wp2_with fail
    refine hwk.mono ?_
    rintro e w2 ⟨rfl, hb2⟩
    have HB2 := Lib.hid (HB1.out.trans (hb2.mono HB1.out.size))
    clear hb2 hwk
    go_wp2
    go_ret
    exact ⟨rfl, HB2.out⟩
  case pos =>
  obtain ⟨g, B, D, rfl, hB, hd⟩ := hgood herr
  have hdi := hd.dict
  clear hm1 hbad hgood hb1 hd hwk
  generalize groupsB ss = gs at *
  generalize putAll gs l = L at *
  have hgd := hdi.good
  have hli := list_in hdi
  have HD := Lib.hid hdi; have HG := Lib.hid hgd
  have hlen := hgd.len
  clear hdi hgd
  go_wp2_with fail
  refine hli.mono ?_
  rintro e w2 ⟨vm, rfl, hvm, hb2⟩
  have hbk := back_in (HD.out.below hb2) s
  obtain ⟨AM, cM, rfl, -, -⟩ := hvm.form
  have HB2 := Lib.hid hb2; have HVM := Lib.hid hvm
  clear hli hb2 hvm
  generalize hLm : L.length = m at *
  have HLM := Lib.hid hLm
  clear hLm
  go_wp2_with fail
  refine hbk.mono ?_
  rintro e w3 ⟨vb, rfl, hob, hb3⟩
  obtain ⟨AB, cB, rfl, hcb1, hcb2⟩ := ownsRow_form hob
  have hrb : ReadS w3 w3.heap.size AB (backL L s).length (backL L s) := show ReadS _ _ _ _ _ from Reads.of_own hob
  have hnb : (backL L s).length ≤ 9223372036854775807 := by unfold maxLen at hcb2; omega
  have hb13 := HB2.out.trans (hb3.mono HB2.out.size)
  have hvm3 : ArtsF w3 (fun b => b < w3.heap.size) L (.slice AM m cM) := HVM.out.keep (fun b hb => Nat.lt_of_lt_of_le hb.2 hb3.size) (keepS_below hb3 fun b hb => hb.2)
  have HAM := Lib.hid (fun (i : Nat) (hi : i < L.length) => art_at hvm3 hi)
  have HD3 := Lib.hid ((HD.out.below HB2.out).below hb3)
  have HW3 := Lib.hid (HB1.out.trans (hb13.mono HB1.out.size))
  have hmb := fun (x : ByteArray) (hx : x ∈ headsL L) => memB_back (L := L) (s := s) hx
  have hall := refN_all (L := L) (s := s) (k := m) (by rw [HLM.out]; exact Nat.le_refl _)
  have hms := fun (l : List ByteArray) (hl : ∀ t, t ∈ l ↔ t ∈ missAll L (headsL L)) => memB_miss (L := L) (s := s) hl
  have HRB := Lib.hid hrb; have HMB := Lib.hid hmb; have HALL := Lib.hid hall; have HMS := Lib.hid hms
  clear hbk hob hb3 hb13 hrb hvm3 hmb hall hms hcb1 hcb2 HVM
  generalize hC : backL L s = bk at *
  obtain ⟨nb, hq⟩ : ∃ q, bk.length = q := ⟨_, rfl⟩
  rw [hq] at hnb HRB HALL HMS ⊢
  clear hq hC
  go_wp2
  go_loopw [10, 11, 12] (fun v i _ wr => ∃ k : Nat, k ≤ m ∧ i = .int .i64 k ∧ v = .int .i64 (refN L s k : Nat) ∧ w3 = wr) (fun _ i _ _ => m - (RowKit.intOf i).toNat)
  case atStart => exact ⟨0, by omega, rfl, rfl, rfl⟩
  case round =>
    obtain ⟨k, hk, rfl, rfl, rfl⟩ := hrel
    obtain ⟨a, ha⟩ : ∃ a, refN L s k = a := ⟨_, rfl⟩
    have ha2 : a ≤ k := by rw [← ha]; exact refN_le
    by_cases hlt : k < m
    · have hkI : (k : Int) < (m : Int) := by omega
      have hkl : k < L.length := by rw [HLM.out]; exact hlt
      have hkh : k < (headsL L).length := by rw [headsL_len]; exact hkl
      obtain ⟨ad, X1, y1, X2, y2, X3, y3, rfl, hx, hbk, hrun⟩ := HAM.out k hkl
      obtain ⟨q0, -, -, q3⟩ := hrun w3 (fun _ _ => rfl)
      obtain ⟨v1, v2, v3, e, -, -, A9, c9, e9, hcs, hrs⟩ := hx
      simp only [List.cons.injEq, and_true, true_and] at e
      obtain ⟨-, -, e⟩ := e
      rw [← e] at e9
      injection e9 with e91 e92 e93
      subst e91 e93
      have hsr : ReadS w3 w3.heap.size X3 L[k].see.length L[k].see := show ReadS _ _ _ _ _ from hrs.reads fun b hb => hb
      have hsm := seeOf_mem HG.out hkl
      have hhm := head_mem hkl
      have hrn := refN_succ (L := L) (s := s) hkh
      rw [heads_get hkh, hsm, ha] at hrn
      have hmk := HMB.out _ hhm
      rw [hsm] at hmk
      have hnse : L[k].see.length ≤ 9223372036854775807 := by unfold maxLen at hcs; omega
      have hh1 := has_any w3 X3 L[k].see.length y3 L[k].see s hsr hnse
      have hh2 := has_any w3 AB nb cB bk L[k].head HRB.out hnb
      rw [hmk] at hh2
      rw [ha]
      have HRN := Lib.hid hrn
      clear hbk hrun e hcs hrs hsr hsm hhm hrn hmk hkh ha
      generalize L[k].head = hd at *
      generalize memB L[k].see s = b at *
      generalize L[k].see.length = ns at *
      go_wp2_with fail
      refine hh1.mono ?_
      rintro e w4 ⟨rfl, rfl⟩
      clear hh1 q3
      go_wp2_with fail
      refine hh2.mono ?_
      rintro e w5 ⟨rfl, rfl⟩
      clear hh2 q0
      cases b with
      | true =>
        have HR2 := Lib.hid (show refN L s (k + 1) = a + 1 from HRN.out)
        go_wp2
        go_roundw
        case rel => exact ⟨k + 1, by omega, by go_num, by rw [HR2.out]; go_num, trivial⟩
        case measure => simp [RowKit.intOf]; omega
      | false =>
        have HR2 := Lib.hid (show refN L s (k + 1) = a from HRN.out)
        go_wp2
        go_roundw
        case rel => exact ⟨k + 1, by omega, by go_num, by rw [HR2.out], trivial⟩
        case measure => simp [RowKit.intOf]; omega
    · obtain rfl : m = k := by omega
      have hna : a = nb := by rw [← ha]; exact HALL.out
      rw [ha, hna]
      clear ha ha2 hna
      have hge := get_in HD3.out s (by omega)
      go_wp2_with fail
      refine hge.mono ?_
      rintro e w6 ⟨cs, rfl, hx6, hb6⟩
      obtain ⟨Z1, z1, Z2, z2, Z3, z3, rfl⟩ := hx6.form
      dsimp only [aggM]
      obtain ⟨wa, hwa⟩ : ∃ W, w6.alloc (.cells #[.string (artOf L s).head, .slice Z1 (artOf L s).word.length z1, .slice Z2 (artOf L s).texts.length z2, .slice Z3 (artOf L s).see.length z3] 35) = W := ⟨_, rfl⟩
      have hba : Below w3.heap.size w3 wa := hwa ▸ hb6.alloc hb6.size _
      have hmi := missing_in (HD3.out.below hba)
      have HBA := Lib.hid hba; have HWA := Lib.hid hwa
      clear hx6 hb6 hge hba
      generalize (artOf L s).head = x1 at *
      generalize (artOf L s).word.length = x2 at *
      generalize (artOf L s).texts.length = x3 at *
      generalize (artOf L s).see.length = x4 at *
      generalize thereB L s = tb at *
      go_wp2_with fail
      refine hmi.mono ?_
      rintro e w7 ⟨vq, mq, rfl, htx, hmq, -, hb7⟩
      obtain ⟨AQ, cQ, rfl, hcq, hrq⟩ := htx
      have hrq2 : ReadS w7 w7.heap.size AQ mq.length mq := show ReadS _ _ _ _ _ from hrq.reads fun b hb => hb.2
      have hh3 := has_any w7 AQ mq.length cQ mq s hrq2 (by have := hcq; unfold maxLen at this; omega)
      rw [HMS.out mq hmq] at hh3
      have hwk := works_any w7
      have HW7 := Lib.hid ((HW3.out.trans (HBA.out.mono HW3.out.size)).trans (hb7.mono (HW3.out.trans (HBA.out.mono HW3.out.size)).size))
      clear hmi hcq hrq hrq2 hb7 hmq
      generalize mq.length = nq at *
      have hnI : decide ((0 : Int) < (nb : Int)) = decide (0 < nb) := by
        by_cases h : 0 < nb
        · rw [decide_eq_true h, decide_eq_true (by omega)]
        · rw [decide_eq_false h, decide_eq_false (by omega)]
      go_wp2_with fail
      refine hh3.mono ?_
      rintro e w8 ⟨rfl, rfl⟩
      have HNI := Lib.hid hnI
      clear hh3 hnI
      cases tb with
      | true =>
        go_wp2_with fail
        refine hwk.mono ?_
        rintro e w9 ⟨rfl, hb9⟩
        have HB9 := Lib.hid (HW7.out.trans (hb9.mono HW7.out.size))
        clear hb9 hwk
        go_wp2
        go_ret
        exact ⟨rfl, HB9.out⟩
      | false =>
        by_cases hnb0 : 0 < nb
        · have hz : (0 : Int) < (nb : Int) := by omega
          rw [decide_eq_true hnb0]
          go_wp2_with fail
          refine hwk.mono ?_
          rintro e w9 ⟨rfl, hb9⟩
          have HB9 := Lib.hid (HW7.out.trans (hb9.mono HW7.out.size))
          clear hb9 hwk
          go_wp2
          go_ret
          exact ⟨rfl, HB9.out⟩
        · have hz : ¬ (0 : Int) < (nb : Int) := by omega
          rw [decide_eq_false hnb0]
          go_wp2_with fail
          refine hwk.mono ?_
          rintro e w9 ⟨rfl, hb9⟩
          have HB9 := Lib.hid (HW7.out.trans (hb9.mono HW7.out.size))
          clear hb9 hwk
          go_wp2
          go_ret
          exact ⟨rfl, HB9.out⟩
end Go.Proofs.YtgkpoopiamicnaaDoor
