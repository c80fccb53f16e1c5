/-
  IsoglossIslands: the walk, out of what New hands back. Conditions: bytes that are read. (Printed by law37f.py.)
-/
import Derived.Test.YtgimhjkijpcgjaaDoorGaz
namespace Go.Proofs.YtgimhjkijpcgjaaDoor
open Go.RowKit Go.Lib

theorem vals_ok {xs : List Int} (h : Vals3 xs) : ∀ v ∈ xs, okI v := fun v hv => by
  have := h v hv
  have h3 : v = 0 ∨ v = 1 ∨ v = 2 := by omega
  rcases h3 with rfl | rfl | rfl <;> decide
def pI (R : List Rd) (xs : List Int) (n : Nat) (k : Nat) : Bool := decide (kindN (arndK R (lbI n (regE R xs)) xs R.length (k : Int)) 3 = 1)
def curI (R : List Rd) (xs : List Int) (n k : Nat) : Nat := ((List.range k).filter (pI R xs n)).length
theorem curI_le (R : List Rd) (xs : List Int) (n k : Nat) : curI R xs n k ≤ k := filter_range_len _ k
theorem curI_step (R : List Rd) (xs : List Int) (n k : Nat) : curI R xs n (k + 1) = curI R xs n k + if pI R xs n k = true then 1 else 0 := by
  unfold curI
  rw [filter_range_succ, List.length_append]
  by_cases e : pI R xs n k = true
  · rw [if_pos e, if_pos e]; rfl
  · rw [if_neg e, if_neg e]; rfl
set_option maxRecDepth 40000 in
set_option maxHeartbeats 8000000 in
theorem islands_law (hnew : NewAny) (hwk : Works37) (x8 : UInt8) (A : Option Addr) (m c : Nat) (bs : List UInt8) (y : UInt32) (w : World) (hm : m ≤ maxLen) (h : ReadB w w.heap.size A m bs) :
    Calls Tryd.prog 7 #[.int .u8 x8.toNat, .slice A m c, .int .u32 y.toNat] w fun e w' => e = .returned (.bool true) ∧ Below w.heap.size w w' := by
  have hf := field_any hnew x8 A m c bs w hm h
  have hn12 : 3 + x8.toNat % 10 ≤ 12 := by omega
  have hn3 : 3 ≤ 3 + x8.toNat % 10 := by omega
  generalize 3 + x8.toNat % 10 = n at *
  generalize (x8.toNat : Int) = xi at *
  have HF := Lib.hid hf; have HWK := Lib.hid hwk
  clear h hf hnew hwk
  go_enter Tryd.func7, Tryd.ntmps7
  go_wp2_with fail
  refine HF.out.mono ?_
  intro e w1 h1
  obtain ⟨g, AR, cR, R, om, rfl, hM, hG, hlen, hrd, hR40, hRR, hb1⟩ := h1.om
  have hlc := lenP_any (some ⟨g, 0, none⟩) om w1 hM
  rw [hlen] at hlc
  have HM := Lib.hid hM; have HG := Lib.hid hG; have HLEN := Lib.hid hlen; have HLENI := Lib.hid hlen; have HRD := Lib.hid hrd; have HRR := Lib.hid hRR; have HB1 := Lib.hid hb1
  clear h1 hM hG hlen hrd hRR hb1 HF
  go_wp2_with fail
  refine hlc.mono ?_
  rintro e w' ⟨rfl, rfl⟩
  go_wp2_with fail
  refine (valued_any n y w1 (by omega)).mono ?_
  rintro e w2 ⟨v9, xs, rfl, hxl, hv3, ho9, hb2⟩
  obtain ⟨A9, c9, rfl, hnc9, hcm9⟩ := ownsRow_form ho9
  have HXL := Lib.hid hxl
  have HR9 := Lib.hid (Reads.of_own ho9)
  have HM2 := Lib.hid (HM.out.below hb2)
  have HRR2 := Lib.hid ((HRR.out.below hb2).more hb2.size)
  have HB2 := Lib.hid (HB1.out.trans (hb2.mono HB1.out.size))
  have hchk : chkN (lenO om) [xs] = 0 := by rw [HLEN.out]; exact chkN_ok (by omega) (by show 1 ≤ 256; decide) (fun vs hv => by rw [List.mem_singleton.1 hv]; exact HXL.out)
  have hrv : regV om xs = lbI n (regE R xs) := by unfold regV; rw [if_pos hchk, HLEN.out, HRD.out]
  have hokr : ∀ x ∈ R, Okr n x := by have := HG.out.okr; rw [HLEN.out, HRD.out] at this; exact this
  have HCHK := Lib.hid hchk; have HRV := Lib.hid hrv; have HOK := Lib.hid hokr
  have HLL := Lib.hid (lbI_len n (regE R xs))
  have q1 := regionsP_any (some ⟨g, 0, none⟩) om A9 n c9 xs w2 HM2.out HG.out HR9.out hnc9 hcm9
  unfold GivesE at q1
  rw [HCHK.out, HRV.out] at q1
  have HV3 := Lib.hid hv3
  clear hxl hv3 ho9 hb2 hchk hrv hokr HM HRR HB1 hlc
  go_wp2_with fail
  refine q1.mono ?_
  rintro e w3 ⟨v10, rfl, ho10, hb3⟩
  rw [HLL.out] at ho10
  obtain ⟨A10, c10, rfl, hnc10, hcm10⟩ := ownsRow_form ho10
  have HR10 := Lib.hid (Reads.of_own ho10)
  have HM3 := Lib.hid (HM2.out.below hb3)
  have HR9' := Lib.hid (ReadI.later HR9.out hb3)
  have HRR3 := Lib.hid ((HRR2.out.below hb3).more hb3.size)
  have HB3 := Lib.hid (HB2.out.trans (hb3.mono HB2.out.size))
  have hiv : islV om xs = intsL ((List.range n).filter (pI R xs n)) := by
    unfold islV
    rw [if_pos HCHK.out, HLEN.out, HRD.out]
    unfold isleN
    congr 1
    refine List.filter_congr fun k _ => ?_
    exact isle_pick HOK.out HV3.out k
  have HIV := Lib.hid hiv
  have q2 := islandsP_any (some ⟨g, 0, none⟩) om A9 n c9 xs w3 HM3.out HG.out HR9'.out hnc9 hcm9 (vals_ok HV3.out)
  unfold GivesE at q2
  rw [HCHK.out, HIV.out] at q2
  clear q1 ho10 hb3 HM2 HR9 HRR2 HB2 hiv
  go_wp2_with fail
  refine q2.mono ?_
  rintro e w4 ⟨v12, rfl, ho12, hb4⟩
  obtain ⟨A12, c12, rfl, hnc12, hcm12⟩ := ownsRow_form ho12
  have E := Lib.hid (EnvR.mk (HM3.out.below hb4) ((HRR3.out.below hb4).more hb4.size) (ReadI.later HR9'.out hb4) (ReadI.later HR10.out hb4) (Reads.of_own ho12) (HB3.out.trans (hb4.mono HB3.out.size)) : EnvR w w4 (some ⟨g, 0, none⟩) om AR A9 A10 A12 n R xs (lbI n (regE R xs)) (intsL ((List.range n).filter (pI R xs n))))
  have hlc5 := lenP_any (some ⟨g, 0, none⟩) om _ E.out.map
  rw [HLEN.out] at hlc5
  have hlab := labelled_any A10 n c10 (lbI n (regE R xs)) _ E.out.rl (lbI_lab (openE_in HOK.out _)) (Nat.le_trans hnc10 hcm10)
  clear q2 ho12 hb4 HM3 HR9' HRR3 HB3 HR10
  go_wp2_with fail
  refine hlc5.mono ?_
  rintro e w' ⟨rfl, rfl⟩
  go_wp2_with fail
  refine hlab.mono ?_
  rintro e w6 ⟨rfl, hb6⟩
  have E6 := Lib.hid (E.out.later hb6)
  clear hlc5 hlab hb6 E
  go_wp2
  obtain ⟨w0, rfl⟩ : ∃ wo : World, wo = w6 := ⟨_, rfl⟩
  have HIY := Lib.hid (fun k (hk : k < n) (hp : pI R xs n k = true) => intsL_get (pick_next (pI R xs n) hk hp))
  have HIS := Lib.hid (curI_step R xs n)
  have HIE : Hid (curI R xs n n = (intsL ((List.range n).filter (pI R xs n))).length) := Lib.hid (by unfold curI intsL; rw [List.length_map])
  have HIL := Lib.hid (curI_le R xs n)
  have hil : (intsL ((List.range n).filter (pI R xs n))).length = ((List.range n).filter (pI R xs n)).length := by unfold intsL; rw [List.length_map]
  have HRVL := Lib.hid (fun j (hj : j < R.length) => road_vals (xs := xs) HOK.out hj)
  have HOWN := Lib.hid (fun k j => arnd_own (vs := xs) HOK.out (k := k) (j := j))
  have HPI : Hid (∀ k, pI R xs n k = decide (kindN (arndK R (lbI n (regE R xs)) xs R.length (k : Int)) 3 = 1)) := Lib.hid (fun _ => rfl)
  change Hid (∀ k (hk : k < n) (hp : pI R xs n k = true), (intsL ((List.range n).filter (pI R xs n)))[curI R xs n k]? = some (k : Int)) at HIY
  generalize curI R xs n = cur at HIY HIS HIE HIL
  obtain ⟨C, hC⟩ : ∃ C, ((List.range n).filter (pI R xs n)).length = C := ⟨_, rfl⟩
  rw [hC] at hil
  rw [hil] at HIE hnc12
  rw [hC]
  have HC := Lib.hid hil
  clear hil hC
  generalize hls : lbI n (regE R xs) = ls at *
  generalize hcs : intsL ((List.range n).filter (pI R xs n)) = cs at *
  clear hls hcs
  generalize pI R xs n = pi at *
  have HAST := Lib.hid (fun j (hj : j < R.length) (k : Int) => arndK_step R ls xs hj k)
  have HAVL := Lib.hid (fun j (k : Int) => arnd_vals (R := R) (reg := ls) (j := j) (k := k) HV3.out)
  have HALN := Lib.hid (fun j (k : Int) => arndK_len R ls xs j k)
  have HX3 := Lib.hid (fun i => valAt_vals HV3.out i)
  obtain ⟨r, hr⟩ : ∃ r, R.length = r := ⟨_, rfl⟩
  have HRL := Lib.hid hr
  rw [hr] at hR40
  rw [hr]
  clear hr HRV HLEN HRD HOK
  go_loopw [14, 15] (fun at_ i wr => ∃ k : Nat, k ≤ n ∧ i = .int .i64 k ∧ at_ = .int .i64 (cur k : Nat) ∧ Below w0.heap.size w0 wr) (fun _ i _ => n - (intOf i).toNat)
  case atStart => exact ⟨0, by omega, rfl, by have := HIL.out 0; rw [Nat.le_zero.1 this]; rfl, Below.refl _ _⟩
  case round =>
    obtain ⟨k, hk, rfl, rfl, hb⟩ := hrel
    have HB := Lib.hid hb
    have E7 := Lib.hid (E6.out.later hb)
    have hlc := lenP_any (some ⟨g, 0, none⟩) om wr E7.out.map
    rw [HLENI.out] at hlc
    clear hb
    by_cases hltk : k < n
    · have hkI : (k : Int) < (n : Int) := by omega
      obtain ⟨wo, rfl⟩ : ∃ wo : World, wo = wr := ⟨_, rfl⟩
      have hk0 := Blk.new wo 73 (row3 [])
      have HK0 := Lib.hid hk0
      have HAL := Lib.hid ((Below.refl wo.heap.size wo).alloc (Nat.le_refl _) (.cells (row3 []) 73))
      have hcl := HIL.out k
      clear hk0
      go_wp2_with fail
      refine hlc.mono ?_
      rintro e w' ⟨rfl, rfl⟩
      clear hlc
      go_wp2
      go_loopw [17] (fun i wr => ∃ j : Nat, j ≤ r ∧ i = .int .i64 j ∧ Blk wr wo.heap.size 73 (row3 (arndK R ls xs j (k : Int))) ∧ Below wo.heap.size wo wr) (fun i _ => r - (intOf i).toNat)
      case atStart => exact ⟨0, by omega, rfl, HK0.out, HAL.out⟩
      case round =>
        clear HK0 HAL
        obtain ⟨j, hj, rfl, hblk, hbj⟩ := hrel
        have HK := Lib.hid hblk; have HBJ := Lib.hid hbj
        have E8 := Lib.hid (E7.out.later hbj)
        clear hblk hbj
        by_cases hlt : j < r
        · have hjl : j < R.length := by rw [HRL.out]; exact hlt
          obtain ⟨a, b, l, hx, ha, hb', hva, hla⟩ := HRVL.out j hjl
          have hst := HAST.out j hjl (k : Int)
          obtain ⟨bd, rfl, hbd, hc0, hc1, hc2⟩ := roadI_cells E8.out.rr hjl
          rw [hx] at hc0 hc1 hst
          simp only at hc0 hc1
          have hax : a < xs.length := by rw [HXL.out]; exact ha
          have hbx : b < xs.length := by rw [HXL.out]; exact hb'
          have hal : a < ls.length := by rw [HLL.out]; exact ha
          have hbl : b < ls.length := by rw [HLL.out]; exact hb'
          rw [arnd1_val (valAt_get hal) (valAt_get hbl) (valAt_get hax) (valAt_get hbx)] at hst
          have hxa := HX3.out (a : Int)
          have hxb := HX3.out (b : Int)
          rw [valAt_get hax] at hxa
          rw [valAt_get hbx] at hxb
          obtain ⟨av, rfl, hav, va, vb⟩ := readI_two E8.out.rv hax hbx
          obtain ⟨al, rfl, hal', la, lb⟩ := readI_two E7.out.rl hal hbl
          replace la := (HBJ.out.cell (p := al.add a) (by rw [block_of_add]; exact hal')).trans la
          replace lb := (HBJ.out.cell (p := al.add b) (by rw [block_of_add]; exact hal')).trans lb
          have hln := HALN.out j (k : Int)
          generalize xs[a] = xa0 at *
          generalize xs[b] = xb0 at *
          generalize ls[a] = ra at *
          generalize ls[b] = rb at *
          obtain ⟨xa, rfl⟩ : ∃ q : Nat, xa0 = q := ⟨xa0.toNat, by omega⟩
          obtain ⟨xb, rfl⟩ : ∃ q : Nat, xb0 = q := ⟨xb0.toNat, by omega⟩
          have hxa3 : xa < 3 := by omega
          have hxb3 : xb < 3 := by omega
          have hxaI : (xa : Int) < 3 := by omega
          have hxbI : (xb : Int) < 3 := by omega
          have haI : (a : Int) < (n : Int) := by omega
          have hbI : (b : Int) < (n : Int) := by omega
          have hjI : (j : Int) < (r : Int) := by omega
          rw [HRL.out] at hln
          have HSJ := Lib.hid hst
          generalize arndK R ls xs j (k : Int) = L2 at *
          have sa := (HK.out.cell xa).trans (row3_get L2 hxa3)
          have sb := (HK.out.cell xb).trans (row3_get L2 hxb3)
          have fa := HK.out.frozen xa
          have fb := HK.out.frozen xb
          have HNA := Lib.hid (row3_set L2 hxa3); have HNB := Lib.hid (row3_set L2 hxb3)
          have hca := cntV_le L2 (xa : Int)
          have hcb := cntV_le L2 (xb : Int)
          generalize cntV L2 (xa : Int) = na at *
          generalize cntV L2 (xb : Int) = nb at *
          clear hx hc2 hst hva hla hxa hxb
          by_cases h1 : ra = (k : Int)
          · subst h1
            by_cases h2 : rb = (k : Int)
            · subst h2
              have HSJ' : Hid (arndK R ls xs (j + 1) (k : Int) = L2) := Lib.hid (by rw [HSJ.out]; simp)
              go_wp2
              go_region
              go_wp2
              go_roundw
              case rel => exact ⟨j + 1, by omega, by go_num, by rw [HSJ'.out]; exact HK.out.drew, HBJ.out.drew⟩
              case measure => simp [intOf]; omega
            · have h2a : (rb == (k : Int)) = false := beq_false_of_ne h2
              have h2b : (rb != (k : Int)) = true := by simp [h2]
              have HSJ' : Hid (arndK R ls xs (j + 1) (k : Int) = L2 ++ [(xb : Int)]) := Lib.hid (by rw [HSJ.out]; simp [h2])
              have lb2 := (((Below.refl wo.heap.size wr).setCell (p := ⟨wo.heap.size, xb, none⟩) (Nat.le_refl _) (.int .i64 ((nb : Int) + 1))).cell (p := al.add b) (by rw [block_of_add]; exact hal')).trans lb
              go_wp2
              go_region
              go_wp2
              go_roundw
              case rel => exact ⟨j + 1, by omega, by go_num, by rw [HSJ'.out]; rw [← HNB.out]; exact HK.out.drew.set_ _ _, HBJ.out.drew.setCell (p := ⟨wo.heap.size, xb, none⟩) (Nat.le_refl _) _⟩
              case measure => simp [intOf]; omega
          · have h1a : (ra == (k : Int)) = false := beq_false_of_ne h1
            have h1b : (ra != (k : Int)) = true := by simp [h1]
            by_cases h2 : rb = (k : Int)
            · subst h2
              have HSJ' : Hid (arndK R ls xs (j + 1) (k : Int) = L2 ++ [(xa : Int)]) := Lib.hid (by rw [HSJ.out]; simp [h1])
              go_wp2
              go_region
              go_wp2
              go_roundw
              case rel => exact ⟨j + 1, by omega, by go_num, by rw [HSJ'.out]; rw [← HNA.out]; exact HK.out.drew.set_ _ _, HBJ.out.drew.setCell (p := ⟨wo.heap.size, xa, none⟩) (Nat.le_refl _) _⟩
              case measure => simp [intOf]; omega
            · have h2a : (rb == (k : Int)) = false := beq_false_of_ne h2
              have HSJ' : Hid (arndK R ls xs (j + 1) (k : Int) = L2) := Lib.hid (by rw [HSJ.out]; simp [h1, h2])
              go_wp2
              go_region
              go_wp2
              go_roundw
              case rel => exact ⟨j + 1, by omega, by go_num, by rw [HSJ'.out]; exact HK.out.drew, HBJ.out.drew⟩
              case measure => simp [intOf]; omega
        · obtain rfl : r = j := by omega
          have HLT := Lib.hid (HAVL.out r (k : Int))
          have hpi := HPI.out k
          have how := HOWN.out k r
          rw [HRL.out] at hpi
          have HPK := Lib.hid hpi
          have hkx : k < xs.length := by rw [HXL.out]; exact hltk
          rw [valAt_get hkx] at how
          have hxk := HX3.out (k : Int)
          rw [valAt_get hkx] at hxk
          obtain ⟨av, rfl, hav, vk⟩ := ReadI.at_ (k := k) E8.out.rv hkx
          generalize xs[k] = xk0 at *
          obtain ⟨xk, rfl⟩ : ∃ q : Nat, xk0 = q := ⟨xk0.toNat, by omega⟩
          have hxkI : (xk : Int) < 3 := by omega
          generalize arndK R ls xs r (k : Int) = L2 at *
          have sk := (HK.out.cell xk).trans (row3_get L2 (by omega))
          rw [how] at sk
          clear hpi how hxk
          obtain ⟨wq, rfl⟩ : ∃ wq : World, wq = wr := ⟨_, rfl⟩
          go_wp2
          go_loopw [20, 125] (fun s i wr => ∃ v : Nat, v ≤ 3 ∧ i = .int .i64 v ∧ s = .int .i64 (kindN L2 v : Nat) ∧ wq = wr) (fun _ i _ => 3 - (intOf i).toNat)
          case atStart => exact ⟨0, by omega, rfl, rfl, rfl⟩
          case round =>
            obtain ⟨v, hv, rfl, rfl, rfl⟩ := hrel
            have hkl := kindN_le L2 v
            by_cases hv3 : v < 3
            · have sv := (HK.out.cell v).trans (row3_get L2 hv3)
              have hvI : (v : Int) < 3 := by omega
              have HKS : Hid (kindN L2 (v + 1) = kindN L2 v + min (cntV L2 (v : Int)) 1) := Lib.hid rfl
              generalize kindN L2 v = kn at *
              generalize cntV L2 (v : Int) = cn at *
              go_wp2
              go_roundw
              case rel => exact ⟨v + 1, by omega, by go_num, by rw [HKS.out]; congr 1; omega, trivial⟩
              case measure => simp [intOf]; omega
            · obtain rfl : v = 3 := by omega
              generalize kindN L2 3 = kn at *
              by_cases hkn : kn = 1
              · subst hkn
                have hp : pi k = true := by rw [HPK.out]; rfl
                have hcc := HIY.out k hltk hp
                have hn1 : cur (k + 1) = cur k + 1 := by rw [HIS.out, hp]; rfl
                have HN1 := Lib.hid hn1
                have htc : cur k < cs.length := (List.getElem?_eq_some_iff.1 hcc).1
                obtain ⟨ac, rfl, hac, ca⟩ := ReadI.at_ (k := cur k) E8.out.rc htc
                rw [(List.getElem?_eq_some_iff.1 hcc).2] at ca
                have htI : (cur k : Int) < (C : Int) := by rw [← HC.out]; omega
                generalize cur k = t at *
                have htB : ¬ (C : Int) ≤ (t : Int) := by omega
                clear hp hcc hn1
                go_wp2
                go_roundw
                case rel => exact ⟨k + 1, by omega, by go_num, by rw [HN1.out]; go_num, HB.out.trans (HBJ.out.mono HB.out.size)⟩
                case measure => simp [intOf]; omega
              · have hp : pi k = false := by rw [HPK.out]; exact decide_eq_false hkn
                have hn1 : cur (k + 1) = cur k := by rw [HIS.out, hp]; rfl
                have HN1 := Lib.hid hn1
                have hknI : ¬ (kn : Int) = 1 := by omega
                clear hp hn1
                go_wp2
                go_roundw
                case rel => exact ⟨k + 1, by omega, by go_num, by rw [HN1.out], HB.out.trans (HBJ.out.mono HB.out.size)⟩
                case measure => simp [intOf]; omega
    · obtain rfl : n = k := by omega
      rw [HIE.out]
      go_wp2_with fail
      refine hlc.mono ?_
      rintro e w' ⟨rfl, rfl⟩
      go_wp2_with fail
      refine (HWK.out _).mono ?_
      rintro e v5 ⟨rfl, hb5⟩
      have HBE := Lib.hid (E7.out.below.trans (hb5.mono E7.out.below.size))
      clear hb5
      go_wp2
      go_ret
      exact ⟨rfl, HBE.out⟩
end Go.Proofs.YtgimhjkijpcgjaaDoor
namespace Go.Proofs.YtgimhjkijpcgjaaDoor
open Go.RowKit Go.Lib

theorem cutB_symm (vs : List Int) (a b l : Int) : cutB vs (a, b, l) = cutB vs (b, a, l) := by
  unfold cutB
  congr 1
  rw [Bool.eq_iff_iff, beq_iff_eq, beq_iff_eq]
  exact ⟨fun h => h.symm, fun h => h.symm⟩
theorem dif_symm (l : List (List Int)) (a b : Int) : difN l a b = difN l b a := by
  unfold difN bundN
  congr 1
  exact List.filter_congr fun vs _ => cutB_symm vs a b 0
theorem dif_self (l : List (List Int)) (a : Int) : difN l a a = 0 := by
  unfold difN bundN
  rw [List.length_eq_zero_iff, List.filter_eq_nil_iff]
  intro vs _
  unfold cutB
  simp
theorem dif_le (l : List (List Int)) (a b : Int) : difN l a b ≤ l.length := bundN_le l _
theorem dif_tri (l : List (List Int)) (a b c : Int) : difN l a b ≤ difN l a c + difN l c b := by
  unfold difN bundN
  induction l with
  | nil => exact Nat.le_refl _
  | cons vs l ih =>
    rw [List.filter_cons, List.filter_cons, List.filter_cons]
    by_cases h1 : cutB vs (a, b, 0) = true
    · have h2 : cutB vs (a, c, 0) = true ∨ cutB vs (c, b, 0) = true := by
        by_cases h3 : cutB vs (a, c, 0) = true
        · exact .inl h3
        · right
          unfold cutB at h1 h3 ⊢
          simp only [Bool.not_eq_true', beq_eq_false_iff_ne, ne_eq] at h1 h3 ⊢
          rw [show valAt vs (a, c, (0 : Int)).1 = valAt vs (a, b, (0 : Int)).1 from rfl] at h3
          intro e
          exact h1 (by rw [show valAt vs (a, b, (0 : Int)).1 = valAt vs (a, c, (0 : Int)).2.1 from by simpa using h3]; exact e)
      rw [if_pos h1, List.length_cons]
      rcases h2 with h2 | h2
      · rw [if_pos h2, List.length_cons]
        split <;> simp <;> omega
      · rw [if_pos h2, List.length_cons]
        split <;> simp <;> omega
    · rw [if_neg h1]
      split <;> split <;> (try simp only [List.length_cons]) <;> omega
def low60B : Bool := (List.range 7).all fun d => (List.range 7).all fun n => decide (1 ≤ n → d ≤ n → (lowN d n * 60 / lowD d n = d * 60 / n ∧ 1 ≤ lowD d n ∧ lowD d n ≤ n ∧ lowN d n ≤ lowD d n))
theorem low60 {d n : Nat} (hn : 1 ≤ n) (h6 : n ≤ 6) (hd : d ≤ n) : lowN d n * 60 / lowD d n = d * 60 / n ∧ 1 ≤ lowD d n ∧ lowD d n ≤ n ∧ lowN d n ≤ lowD d n := by
  have h : low60B = true := by decide +kernel
  unfold low60B at h
  rw [List.all_eq_true] at h
  have h1 := h d (List.mem_range.2 (by omega))
  rw [List.all_eq_true] at h1
  exact of_decide_eq_true (h1 n (List.mem_range.2 (by omega))) hn hd
def lowCmpB : Bool := (List.range 7).all fun d => (List.range 7).all fun d' => (List.range 7).all fun n => decide (1 ≤ n → d ≤ n → d' ≤ n → ((d' ≤ d → lowN d' n * lowD d n ≤ lowN d n * lowD d' n) ∧ (lowN d n = lowN d' n → lowD d n = lowD d' n → d = d')))
theorem lowCmp {d d' n : Nat} (hn : 1 ≤ n) (h6 : n ≤ 6) (hd : d ≤ n) (hd' : d' ≤ n) : (d' ≤ d → lowN d' n * lowD d n ≤ lowN d n * lowD d' n) ∧ (lowN d n = lowN d' n → lowD d n = lowD d' n → d = d') := by
  have h : lowCmpB = true := by decide +kernel
  unfold lowCmpB at h
  rw [List.all_eq_true] at h
  have h1 := h d (List.mem_range.2 (by omega))
  rw [List.all_eq_true] at h1
  have h2 := h1 d' (List.mem_range.2 (by omega))
  rw [List.all_eq_true] at h2
  exact of_decide_eq_true (h2 n (List.mem_range.2 (by omega))) hn hd hd'
theorem tri60 {d1 d2 d3 n : Nat} (hn : 1 ≤ n) (h6 : n ≤ 6) (h : d1 ≤ d2 + d3) : d1 * 60 / n ≤ d2 * 60 / n + d3 * 60 / n := by
  have : n = 1 ∨ n = 2 ∨ n = 3 ∨ n = 4 ∨ n = 5 ∨ n = 6 := by omega
  rcases this with rfl | rfl | rfl | rfl | rfl | rfl <;> omega
/-- No other point is more alike than the one that is found, and no earlier one as much. -/
theorem bestB_least {l : List (List Int)} {a : Int} : ∀ {k c : Nat}, bestB l a k = some c → (∀ b : Nat, b < k → (b : Int) ≠ a → difN l a c ≤ difN l a b) ∧ (∀ b : Nat, b < c → (b : Int) ≠ a → difN l a c < difN l a b)
  | 0, c, h => by cases h
  | k + 1, c, h => by
    have ih := fun c h => bestB_least (l := l) (a := a) (k := k) (c := c) h
    have hlt := bestB_lt h
    rw [bestB_succ] at h
    unfold stepB at h
    by_cases hb : (k : Int) = a
    · rw [if_pos hb] at h
      obtain ⟨h1, h2⟩ := ih c h
      refine ⟨fun b hbk hba => ?_, h2⟩
      rcases Nat.lt_or_ge b k with hl | hl
      · exact h1 b hl hba
      · obtain rfl : b = k := by omega
        exact absurd hb hba
    · rw [if_neg hb] at h
      cases ho : bestB l a k with
      | none =>
        rw [ho] at h
        injection h with h
        subst h
        have hn := bestB_none ho
        refine ⟨fun b hbk hba => ?_, fun b hbk hba => absurd (hn b hbk) hba⟩
        rcases Nat.lt_or_ge b k with hl | hl
        · exact absurd (hn b hl) hba
        · obtain rfl : b = k := by omega
          exact Nat.le_refl _
      | some d =>
        rw [ho] at h
        dsimp only at h
        obtain ⟨h1, h2⟩ := ih d ho
        split at h
        · rename_i hlt2
          injection h with h
          subst h
          refine ⟨fun b hbk hba => ?_, fun b hbk hba => ?_⟩
          · rcases Nat.lt_or_ge b k with hl | hl
            · have := h1 b hl hba; omega
            · obtain rfl : b = k := by omega
              exact Nat.le_refl _
          · have := h1 b hbk hba; omega
        · rename_i hlt2
          injection h with h
          subst h
          refine ⟨fun b hbk hba => ?_, h2⟩
          rcases Nat.lt_or_ge b k with hl | hl
          · exact h1 b hl hba
          · obtain rfl : b = k := by omega
            omega
theorem bestB_some {l : List (List Int)} {a n : Nat} (hn : 2 ≤ n) : ∃ c, bestB l (a : Int) n = some c := by
  cases ho : bestB l (a : Int) n with
  | some c => exact ⟨c, rfl⟩
  | none =>
    have h0 := bestB_none ho 0 (by omega)
    have h1 := bestB_none ho 1 (by omega)
    omega
theorem best_empty (a n : Nat) (hn : 2 ≤ n) : bestB [] (a : Int) n = some (if a = 0 then 1 else 0) := by
  obtain ⟨c, hc⟩ := bestB_some (l := []) (a := a) hn
  obtain ⟨h1, h2⟩ := bestB_least hc
  have h3 := bestB_lt hc
  have hz : ∀ x y, difN [] x y = 0 := fun _ _ => rfl
  rw [hc]
  congr 1
  split
  · rename_i h0
    subst h0
    have hc1 : c ≠ 0 := fun e => h3.2 (by rw [e])
    rcases Nat.lt_or_ge 1 c with hl | hl
    · have := h2 1 hl (by decide); rw [hz, hz] at this; omega
    · omega
  · rename_i h0
    rcases Nat.eq_zero_or_pos c with hl | hl
    · exact hl
    · have := h2 0 hl (by omega); rw [hz, hz] at this; omega
end Go.Proofs.YtgimhjkijpcgjaaDoor
