/-
  IsoglossRegions: the walk, out of what New hands back. Conditions: bytes that are read.
-/
import Derived.Test.YtgimhjkijpcgjaaDoorGay
import Derived.Test.YtgimhjkijpcgjaaDoorIsLa
import Derived.Test.YtgimhjkijpcgjaaDoorIsW
namespace Go.Proofs.YtgimhjkijpcgjaaDoor
open Go.RowKit Go.Lib

theorem FieldPost.om {w w' : World} {n : Nat} {e : Ending} (h : FieldPost w n e w') : ∃ (g : Nat) (AR : Option Addr) (cR : Nat) (R : List Rd) (om : Option Pts), e = .returned (.tuple #[.pointer (some ⟨g, 0, none⟩), .slice AR R.length cR]) ∧ MapO w' (some ⟨g, 0, none⟩) om ∧ NewO om ∧ lenO om = n ∧ roadsO om = R ∧ R.length ≤ 40 ∧ Reads w' w'.heap.size 3 AR R.length (R.flatMap roadV) ∧ Below w.heap.size w w' := by
  obtain ⟨p, vR, R, he, hm, hE, ho, hr, hb⟩ := h
  obtain ⟨g, hp, hg⟩ := hm
  obtain ⟨AR, cR, hv, _, _⟩ := ownsRow_form ho
  subst hp hv
  exact ⟨g, AR, cR, R, some (newM (fldN n) R), he, ⟨g, rfl, hg⟩, fun M e => by injection e with e; exact ⟨_, _, hE, e.symm⟩, fldN_len n, rfl, hr, Reads.of_own ho, hb⟩
/-- What IsoglossRegions reads. -/
structure EnvR (w W : World) (p : Option Addr) (om : Option Pts) (AR A9 A10 A12 : Option Addr) (n : Nat) (R : List Rd) (xs ls cs : List Int) : Prop where
  map : MapO W p om
  rr : Reads W W.heap.size 3 AR R.length (R.flatMap roadV)
  rv : ReadI W W.heap.size A9 n xs
  rl : ReadI W W.heap.size A10 n ls
  rc : ReadI W W.heap.size A12 cs.length cs
  below : Below w.heap.size w W
theorem EnvR.later {w W W' : World} {p : Option Addr} {om : Option Pts} {AR A9 A10 A12 : Option Addr} {n : Nat} {R : List Rd} {xs ls cs : List Int} (h : EnvR w W p om AR A9 A10 A12 n R xs ls cs) (hb : Below W.heap.size W W') : EnvR w W' p om AR A9 A10 A12 n R xs ls cs :=
  ⟨h.map.below hb, (h.rr.below hb).more hb.size, ReadI.later h.rv hb, ReadI.later h.rl hb, ReadI.later h.rc hb, h.below.trans (hb.mono h.below.size)⟩
/-- A road, and what values and labels are at its ends. -/
theorem road_vals {n : Nat} {R : List Rd} {xs : List Int} (hok : ∀ x ∈ R, Okr n x) {j : Nat} (hj : j < R.length) : ∃ (a b : Nat) (l : Int), R[j] = ((a : Int), (b : Int), l) ∧ a < n ∧ b < n ∧ (valAt xs (a : Int) != valAt xs (b : Int)) = cutB xs R[j] ∧ (valAt (lbI n (regE R xs)) (a : Int) != valAt (lbI n (regE R xs)) (b : Int)) = cutB xs R[j] := by
  have hm := List.getElem_mem hj
  have hag := reg_again (vs := xs) hok _ hm
  obtain ⟨a0, a1, b0, b1, _, _, _⟩ := hok _ hm
  refine ⟨R[j].1.toNat, R[j].2.1.toNat, R[j].2.2, ?_, by omega, by omega, ?_, ?_⟩
  · rw [Int.toNat_of_nonneg a0, Int.toNat_of_nonneg b0]
  · rw [Int.toNat_of_nonneg a0, Int.toNat_of_nonneg b0]; rfl
  · rw [Int.toNat_of_nonneg a0, Int.toNat_of_nonneg b0, ← hag]; rfl
theorem intsL_get {l : List Nat} {k q : Nat} (h : l[k]? = some q) : (intsL l)[k]? = some (q : Int) := by unfold intsL; rw [List.getElem?_map, h]; rfl
theorem intsL_some {l : List Nat} {k : Nat} {v : Int} (h : (intsL l)[k]? = some v) : ∃ q : Nat, l[k]? = some q ∧ v = (q : Int) := by
  unfold intsL at h
  rw [List.getElem?_map] at h
  obtain ⟨q, h1, h2⟩ := Option.map_eq_some_iff.1 h
  exact ⟨q, h1, h2.symm⟩
def curT (R : List Rd) (xs : List Int) (j : Nat) : Nat := ((List.range j).filter fun i => cutB xs (rdAt R i)).length
theorem cur_step {R : List Rd} {xs : List Int} {j : Nat} (hj : j < R.length) : curT R xs (j + 1) = curT R xs j + if cutB xs R[j] = true then 1 else 0 := by
  unfold curT
  rw [filter_range_succ, List.length_append, rdAt_get hj]
  by_cases e : cutB xs R[j] = true
  · rw [if_pos e, if_pos e]; rfl
  · rw [if_neg e, if_neg e]; rfl
theorem cur_len (R : List Rd) (xs : List Int) (j : Nat) : curT R xs j ≤ j := filter_range_len _ j
theorem cur_yes {R : List Rd} {xs : List Int} {j : Nat} (hj : j < R.length) (hc : cutB xs R[j] = true) : (intsL (cutsL R xs))[curT R xs j]? = some (j : Int) :=
  intsL_get (pick_next (fun i => cutB xs (rdAt R i)) hj (by rw [rdAt_get hj]; exact hc))
theorem cur_no {R : List Rd} {xs : List Int} {j : Nat} (hj : j < R.length) (hc : cutB xs R[j] = false) {v : Int} (hv : (intsL (cutsL R xs))[curT R xs j]? = some v) : v ≠ (j : Int) := by
  obtain ⟨q, h1, rfl⟩ := intsL_some hv
  have := pick_not (fun i => cutB xs (rdAt R i)) hj (by rw [rdAt_get hj]; exact hc) h1
  omega
theorem cur_end (R : List Rd) (xs : List Int) : curT R xs R.length = (intsL (cutsL R xs)).length := by unfold curT intsL cutsL; rw [List.length_map]
set_option maxRecDepth 40000 in
set_option maxHeartbeats 8000000 in
theorem regions_law (hnew : NewAny) (hwk : Works37) (x8 : UInt8) (A : Option Addr) (m c : Nat) (bs : List UInt8) (y : UInt32) (w : World) (hm : m ≤ maxLen) (h : ReadB w w.heap.size A m bs) :
    Calls Tryd.prog 6 #[.int .u8 x8.toNat, .slice A m c, .int .u32 y.toNat] w fun e w' => e = .returned (.bool true) ∧ Below w.heap.size w w' := by
  have hf := field_any hnew x8 A m c bs w hm h
  have hn12 : 3 + x8.toNat % 10 ≤ 12 := by omega
  have hn3 : 3 ≤ 3 + x8.toNat % 10 := by omega
  generalize 3 + x8.toNat % 10 = n at *
  generalize (x8.toNat : Int) = xi at *
  have HF := Lib.hid hf; have HWK := Lib.hid hwk
  clear h hf hnew hwk
  go_enter Tryd.func6, Tryd.ntmps6
  go_wp2_with fail
  refine HF.out.mono ?_
  intro e w1 h1
  obtain ⟨g, AR, cR, R, om, rfl, hM, hG, hlen, hrd, hR40, hRR, hb1⟩ := h1.om
  have hlc := lenP_any (some ⟨g, 0, none⟩) om w1 hM
  rw [hlen] at hlc
  have HM := Lib.hid hM; have HG := Lib.hid hG; have HLEN := Lib.hid hlen; have HRD := Lib.hid hrd; have HRR := Lib.hid hRR; have HB1 := Lib.hid hb1
  clear h1 hM hG hlen hrd hRR hb1 HF
  go_wp2_with fail
  refine hlc.mono ?_
  rintro e w' ⟨rfl, rfl⟩
  go_wp2_with fail
  refine (valued_any n y w1 (by omega)).mono ?_
  rintro e w2 ⟨v9, xs, rfl, hxl, hv3, ho9, hb2⟩
  obtain ⟨A9, c9, rfl, hnc9, hcm9⟩ := ownsRow_form ho9
  have HXL := Lib.hid hxl
  have HR9 := Lib.hid (Reads.of_own ho9)
  have HM2 := Lib.hid (HM.out.below hb2)
  have HRR2 := Lib.hid ((HRR.out.below hb2).more hb2.size)
  have HB2 := Lib.hid (HB1.out.trans (hb2.mono HB1.out.size))
  have hchk : chkN (lenO om) [xs] = 0 := by rw [HLEN.out]; exact chkN_ok (by omega) (by show 1 ≤ 256; decide) (fun vs hv => by rw [List.mem_singleton.1 hv]; exact HXL.out)
  have hrv : regV om xs = lbI n (regE R xs) := by unfold regV; rw [if_pos hchk, HLEN.out, HRD.out]
  have hcv : cutsV om xs = intsL (cutsL R xs) := by unfold cutsV; rw [if_pos hchk, HRD.out]
  have hokr : ∀ x ∈ R, Okr n x := by have := HG.out.okr; rw [HLEN.out, HRD.out] at this; exact this
  obtain ⟨fx, fy, hcmp, hfy, hfx5, hfy5, hmul⟩ := cmp_good hchk (by rw [HRD.out]; omega)
  rw [HRD.out] at hmul
  have HCHK := Lib.hid hchk; have HRV := Lib.hid hrv; have HCV := Lib.hid hcv; have HOK := Lib.hid hokr; have HCMP := Lib.hid hcmp; have HMUL := Lib.hid hmul
  have HLL := Lib.hid (lbI_len n (regE R xs))
  have q1 := regionsP_any (some ⟨g, 0, none⟩) om A9 n c9 xs w2 HM2.out HG.out HR9.out hnc9 hcm9
  unfold GivesE at q1
  rw [HCHK.out, HRV.out] at q1
  clear hxl hv3 ho9 hb2 hchk hrv hcv hokr hcmp hmul HM HRR HB1 hlc
  go_wp2_with fail
  refine q1.mono ?_
  rintro e w3 ⟨v10, rfl, ho10, hb3⟩
  rw [HLL.out] at ho10
  obtain ⟨A10, c10, rfl, hnc10, hcm10⟩ := ownsRow_form ho10
  have HR10 := Lib.hid (Reads.of_own ho10)
  have HM3 := Lib.hid (HM2.out.below hb3)
  have HR9' := Lib.hid (ReadI.later HR9.out hb3)
  have HRR3 := Lib.hid ((HRR2.out.below hb3).more hb3.size)
  have HB3 := Lib.hid (HB2.out.trans (hb3.mono HB2.out.size))
  have q2 := cutsP_any (some ⟨g, 0, none⟩) om A9 n c9 xs w3 HM3.out HG.out HR9'.out hnc9 hcm9
  unfold GivesE at q2
  rw [HCHK.out, HCV.out] at q2
  clear q1 ho10 hb3 HM2 HR9 HRR2 HB2
  go_wp2_with fail
  refine q2.mono ?_
  rintro e w4 ⟨v12, rfl, ho12, hb4⟩
  obtain ⟨A12, c12, rfl, hnc12, hcm12⟩ := ownsRow_form ho12
  have E := Lib.hid (EnvR.mk (HM3.out.below hb4) ((HRR3.out.below hb4).more hb4.size) (ReadI.later HR9'.out hb4) (ReadI.later HR10.out hb4) (Reads.of_own ho12) (HB3.out.trans (hb4.mono HB3.out.size)) : EnvR w w4 (some ⟨g, 0, none⟩) om AR A9 A10 A12 n R xs (lbI n (regE R xs)) (intsL (cutsL R xs)))
  have q3 := compactP_any (some ⟨g, 0, none⟩) om A9 n c9 xs w4 E.out.map HG.out E.out.rv hnc9 hcm9
  unfold FracE at q3
  rw [HCMP.out, show cmpE om xs = 0 from HCHK.out] at q3
  clear q2 ho12 hb4 HM3 HR9' HRR3 HB3 HR10
  go_wp2_with fail
  refine q3.mono ?_
  rintro e w5 ⟨rfl, hb5⟩
  have hal := hb5.trans (((Below.refl w5.heap.size w5).alloc (Nat.le_refl _) (.cells #[.int .i64 (fx : Int), .int .i64 (fy : Int)] 37)).mono hb5.size)
  have HFR := Lib.hid (Blk.new w5 37 #[.int .i64 (fx : Int), .int .i64 (fy : Int)])
  have E5 := Lib.hid (E.out.later hal)
  clear hb5 hal q3 E
  have hlc5 := lenP_any (some ⟨g, 0, none⟩) om _ E5.out.map
  rw [HLEN.out] at hlc5
  have hlab := labelled_any A10 n c10 (lbI n (regE R xs)) _ E5.out.rl (lbI_lab (openE_in HOK.out _)) (Nat.le_trans hnc10 hcm10)
  go_wp2_with fail
  refine hlc5.mono ?_
  rintro e w' ⟨rfl, rfl⟩
  go_wp2_with fail
  refine hlab.mono ?_
  rintro e w6 ⟨rfl, hb6⟩
  have E6 := Lib.hid (E5.out.later hb6)
  have HFR6 := Lib.hid (HFR.out.below hb6 HFR.out.lt)
  have f0 := HFR6.out.cell 0; have f1 := HFR6.out.cell 1
  simp only [List.getElem?_toArray, List.getElem?_cons_zero, List.getElem?_cons_succ] at f0 f1
  have hfyI : ¬ (fy : Int) < 1 := by omega
  clear hlc5 hlab hb6 E5 HFR
  go_wp2
  clear f0 f1
  obtain ⟨wo, rfl⟩ : ∃ wo : World, wo = w6 := ⟨_, rfl⟩
  have HCY := Lib.hid (fun j (hj : j < R.length) hc => cur_yes (xs := xs) hj hc)
  have HCN := Lib.hid (fun j (hj : j < R.length) hc v hv => cur_no (xs := xs) hj hc (v := v) hv)
  have HCS := Lib.hid (fun j (hj : j < R.length) => cur_step (xs := xs) hj)
  have HCE := Lib.hid (cur_end R xs)
  have HRVL := Lib.hid (fun j (hj : j < R.length) => road_vals (xs := xs) HOK.out hj)
  have HCL := Lib.hid (cur_len R xs)
  have HVL : Hid (∀ k, k < n → ∃ q : Nat, q < n ∧ (lbI n (regE R xs))[k]? = some (q : Int) ∧ valAt xs (q : Int) = valAt xs (k : Int)) := Lib.hid (fun k hk => ⟨_, Nat.lt_of_le_of_lt ((lbF_lab (openE_in HOK.out _)).le k hk) hk, lbI_get hk, reg_val HOK.out hk⟩)
  have HTW := Lib.hid (reg_twice (vs := xs) HOK.out); have HTC := Lib.hid (cuts_twice (vs := xs) HOK.out)
  have HCN2 : Hid (∀ ls : List Int, ls.length = n → chkN (lenO om) [ls] = 0) := Lib.hid (fun ls hl => by rw [HLEN.out]; exact chkN_ok (by omega) (by show 1 ≤ 256; decide) (fun vs hv => by rw [List.mem_singleton.1 hv]; exact hl))
  have HRV2 : Hid (∀ ls : List Int, ls.length = n → regV om ls = lbI n (regE R ls)) := Lib.hid (fun ls hl => by unfold regV; rw [if_pos (HCN2.out ls hl), HLEN.out, HRD.out])
  have HCV2 : Hid (∀ ls : List Int, ls.length = n → cutsV om ls = intsL (cutsL R ls)) := Lib.hid (fun ls hl => by unfold cutsV; rw [if_pos (HCN2.out ls hl), HRD.out])
  have HCL2 := Lib.hid (cur_len R xs)
  generalize curT R xs = cur at HCY HCN HCS HCE HCL HCL2
  generalize hls : lbI n (regE R xs) = ls at *
  have hil : (intsL (cutsL R xs)).length = (cutsL R xs).length := by unfold intsL; rw [List.length_map]
  obtain ⟨C, hC⟩ : ∃ C, (cutsL R xs).length = C := ⟨_, rfl⟩
  rw [hC] at hil
  rw [hil] at HCE hnc12
  rw [hC]
  rw [hC] at HMUL
  have HC := Lib.hid hil
  clear hil hC
  generalize hcs : intsL (cutsL R xs) = cs at *
  have HLS := Lib.hid hls; have HCSQ := Lib.hid hcs
  clear hls hcs
  obtain ⟨r, hr⟩ : ∃ r, R.length = r := ⟨_, rfl⟩
  have HRL := Lib.hid hr
  rw [hr] at HCE hR40
  rw [hr]
  clear hr
  go_loopw [16, 17] (fun at_ i wr => ∃ j : Nat, j ≤ r ∧ i = .int .i64 j ∧ at_ = .int .i64 (cur j : Nat) ∧ Below wo.heap.size wo wr) (fun _ i _ => r - (intOf i).toNat)
  case atStart => exact ⟨0, by omega, rfl, by have := HCL.out 0; rw [Nat.le_zero.1 this]; rfl, Below.refl _ _⟩
  case round =>
    obtain ⟨j, hj, rfl, rfl, hb⟩ := hrel
    have hcj := HCL.out j
    have HB := Lib.hid hb
    have E7 := Lib.hid (E6.out.later hb)
    clear hb
    by_cases hlt : j < r
    · have hjl : j < R.length := by rw [HRL.out]; exact hlt
      obtain ⟨a, b, l, hx, ha, hb', hva, hla⟩ := HRVL.out j hjl
      have hcy := HCY.out j hjl
      have hcn := HCN.out j hjl
      have hcs' := HCS.out j hjl
      obtain ⟨bd, rfl, hbd, hc0, hc1, hc2⟩ := roadI_cells E7.out.rr hjl
      rw [hx] at hc0 hc1
      simp only at hc0 hc1
      obtain ⟨cu, hcu⟩ : ∃ cu, cutB xs R[j] = cu := ⟨_, rfl⟩
      rw [hcu] at hva hla hcy hcn hcs'
      have hax : a < xs.length := by rw [HXL.out]; exact ha
      have hbx : b < xs.length := by rw [HXL.out]; exact hb'
      have hal : a < ls.length := by rw [HLL.out]; exact ha
      have hbl : b < ls.length := by rw [HLL.out]; exact hb'
      rw [valAt_get hax, valAt_get hbx] at hva
      rw [valAt_get hal, valAt_get hbl] at hla
      obtain ⟨av, rfl, hav, va, vb⟩ := readI_two E7.out.rv hax hbx
      obtain ⟨al, rfl, hal', la, lb⟩ := readI_two E7.out.rl hal hbl
      generalize xs[a] = xa at *
      generalize xs[b] = xb at *
      generalize ls[a] = ya at *
      generalize ls[b] = yb at *
      have haI : (a : Int) < (n : Int) := by omega
      have hbI : (b : Int) < (n : Int) := by omega
      have hjI : (j : Int) < (r : Int) := by omega
      have HCSJ := Lib.hid hcs'
      generalize cur j = t at *
      clear hx hcu hc2 hcs'
      cases cu
      · have hnx : cur (j + 1) = t := by rw [HCSJ.out]; rfl
        have HNX := Lib.hid hnx
        clear hnx hcy
        by_cases ht : t < C
        · have htc : t < cs.length := by rw [HC.out]; exact ht
          have hne := hcn rfl cs[t] (List.getElem?_eq_getElem htc)
          obtain ⟨ac, rfl, hac, ca⟩ := ReadI.at_ (k := t) E7.out.rc htc
          generalize cs[t] = v at *
          have hneB : (v == (j : Int)) = false := beq_false_of_ne hne
          have htI : (t : Int) < (C : Int) := by omega
          clear hcn hne
          go_wp2
          go_region
          go_wp2_with fail
          go_quiet (fail)
          go_wp2
          go_roundw
          case rel => exact ⟨j + 1, by omega, by go_num, by rw [HNX.out], by first | exact HB.out.drew.trans (below_drewN _ _ _) | exact HB.out.drew.drew | exact HB.out.trans (below_drewN _ _ _)⟩
          case measure => simp [intOf]; omega
        · have htI : ¬ (t : Int) < (C : Int) := by omega
          clear hcn
          go_wp2
          go_region
          go_wp2_with fail
          go_quiet (fail)
          go_wp2
          go_roundw
          case rel => exact ⟨j + 1, by omega, by go_num, by rw [HNX.out], by first | exact HB.out.drew.trans (below_drewN _ _ _) | exact HB.out.drew.drew | exact HB.out.trans (below_drewN _ _ _)⟩
          case measure => simp [intOf]; omega
      · have hnx : cur (j + 1) = t + 1 := by rw [HCSJ.out]; rfl
        have HNX := Lib.hid hnx
        have hcc := hcy rfl
        have htc : t < cs.length := (List.getElem?_eq_some_iff.1 hcc).1
        obtain ⟨ac, rfl, hac, ca⟩ := ReadI.at_ (k := t) E7.out.rc htc
        rw [(List.getElem?_eq_some_iff.1 hcc).2] at ca
        have htI : (t : Int) < (C : Int) := by rw [← HC.out]; omega
        clear hnx hcy hcn hcc
        go_wp2
        go_region
        go_wp2_with fail
        go_quiet (fail)
        go_wp2
        go_roundw
        case rel => exact ⟨j + 1, by omega, by go_num, by rw [HNX.out]; go_num, by first | exact HB.out.drew.trans (below_drewN _ _ _) | exact HB.out.drew.drew | exact HB.out.trans (below_drewN _ _ _)⟩
        case measure => simp [intOf]; omega
    · obtain rfl : r = j := by omega
      rw [HCE.out]
      have HLR := Lib.hid HRL.out
      have E8 := Lib.hid E7.out
      have HFR8 := Lib.hid (HFR6.out.below HB.out HFR6.out.lt)
      clear E7 E6 HCY HCN HCS HRVL HCL hcj HFR6
      obtain ⟨wp, rfl⟩ : ∃ wp : World, wp = wr := ⟨_, rfl⟩
      go_wp2
      go_loopw [21] (fun i wr => ∃ k : Nat, k ≤ n ∧ i = .int .i64 k ∧ Below wp.heap.size wp wr) (fun i _ => n - (intOf i).toNat)
      case atStart => exact ⟨0, by omega, rfl, Below.refl _ _⟩
      case round =>
        obtain ⟨k, hk, rfl, hb⟩ := hrel
        have HBK := Lib.hid hb
        have E9 := Lib.hid (E8.out.later hb)
        have hlc := lenP_any (some ⟨g, 0, none⟩) om wr E9.out.map
        rw [HLEN.out] at hlc
        clear hb
        by_cases hltk : k < n
        · obtain ⟨q, hq, hlk, hvk⟩ := HVL.out k hltk
          have hkx : k < xs.length := by rw [HXL.out]; exact hltk
          have hqx : q < xs.length := by rw [HXL.out]; exact hq
          have hkl : k < ls.length := by rw [HLL.out]; exact hltk
          rw [valAt_get hqx, valAt_get hkx] at hvk
          obtain ⟨av, rfl, hav, va, vb⟩ := readI_two E9.out.rv hkx hqx
          obtain ⟨al, rfl, hal', la⟩ := ReadI.at_ (k := k) E9.out.rl hkl
          rw [List.getElem?_eq_getElem hkl] at hlk
          injection hlk with hlk
          rw [hlk] at la
          rw [hvk] at vb
          generalize xs[k] = v at *
          have hkI : (k : Int) < (n : Int) := by omega
          have hqI : (q : Int) < (n : Int) := by omega
          have hvB : (v != v) = false := by simp
          clear hlk hvk
          go_wp2_with fail
          refine hlc.mono ?_
          rintro e w' ⟨rfl, rfl⟩
          clear hlc
          go_wp2
          go_region
          go_wp2
          go_roundw
          case rel => exact ⟨k + 1, by omega, by go_num, HBK.out.drew⟩
          case measure => simp [intOf]; omega
        · obtain rfl : n = k := by omega
          have HFR9 := Lib.hid (HFR8.out.below HBK.out HFR8.out.lt)
          have q1 := regionsP_any (some ⟨g, 0, none⟩) om A10 n c10 ls wr E9.out.map HG.out E9.out.rl hnc10 hcm10
          unfold GivesE at q1
          rw [HCN2.out ls HLL.out, HRV2.out ls HLL.out, HTW.out, HLL.out] at q1
          clear E8 HFR8
          go_wp2_with fail
          refine hlc.mono ?_
          rintro e w' ⟨rfl, rfl⟩
          go_wp2_with fail
          refine q1.mono ?_
          rintro e v1 ⟨v22, rfl, ho22, hb22⟩
          obtain ⟨A22, c22, rfl, hnc22, hcm22⟩ := ownsRow_form ho22
          have HR22 := Lib.hid (Reads.of_own ho22)
          have EA := Lib.hid (E9.out.later hb22)
          have HFRA := Lib.hid (HFR9.out.below hb22 HFR9.out.lt)
          have q2 := cutsP_any (some ⟨g, 0, none⟩) om A10 n c10 ls v1 EA.out.map HG.out EA.out.rl hnc10 hcm10
          unfold GivesE at q2
          rw [HCN2.out ls HLL.out, HCV2.out ls HLL.out, HTC.out, HCSQ.out] at q2
          clear q1 ho22 hb22 E9 HFR9 hlc
          go_wp2_with fail
          refine q2.mono ?_
          rintro e v2 ⟨v24, rfl, ho24, hb24⟩
          rw [HC.out] at ho24
          obtain ⟨A24, c24, rfl, hnc24, hcm24⟩ := ownsRow_form ho24
          have EB := Lib.hid (EA.out.later hb24)
          have HFRB := Lib.hid (HFRA.out.below hb24 HFRA.out.lt)
          have HR22B := Lib.hid (ReadI.later HR22.out hb24)
          have HR24 := Lib.hid (Reads.of_own ho24)
          have q3 := equalI_any A22 A10 n c22 n c10 ls ls v2 HR22B.out EB.out.rl (Nat.le_trans hnc10 hcm10)
          rw [show decide (ls = ls) = true from decide_eq_true rfl] at q3
          clear q2 ho24 hb24 EA HFRA HR22
          go_wp2_with fail
          refine q3.mono ?_
          rintro e v3 ⟨rfl, hb3⟩
          have EC := Lib.hid (EB.out.later hb3)
          have HFRC := Lib.hid (HFRB.out.below hb3 HFRB.out.lt)
          have HRC12 : Hid (ReadI v3 v3.heap.size A12 C cs) := Lib.hid (HC.out ▸ EC.out.rc)
          have q4 := equalI_any A24 A12 C c24 C c12 cs cs v3 (ReadI.later HR24.out hb3) HRC12.out (Nat.le_trans hnc12 hcm12)
          rw [show decide (cs = cs) = true from decide_eq_true rfl] at q4
          clear q3 hb3 EB HFRB
          go_wp2_with fail
          refine q4.mono ?_
          rintro e v4 ⟨rfl, hb4⟩
          have ED := Lib.hid (EC.out.later hb4)
          have HFRD := Lib.hid (HFRC.out.below hb4 HFRC.out.lt)
          have f0 := HFRD.out.cell 0; have f1 := HFRD.out.cell 1
          simp only [List.getElem?_toArray, List.getElem?_cons_zero, List.getElem?_cons_succ] at f0 f1
          have hCr : C ≤ r := by rw [← HCE.out]; exact HCL2.out r
          obtain ⟨P, hP⟩ : ∃ P : Int, P = (fx : Int) * (r : Int) := ⟨_, rfl⟩
          have hm1 : (fx : Int) * (r : Int) = P := hP.symm
          have hm2 : (fy : Int) * ((r : Int) - (C : Int)) = P := by
            rw [hP]
            have := HMUL.out
            rw [HRL.out] at this
            rw [show (r : Int) - (C : Int) = ((r - C : Nat) : Int) by omega, ← Int.natCast_mul, ← Int.natCast_mul, this]
          have hPb : (fx * r) ≤ 512 * 40 := Nat.mul_le_mul hfx5 hR40
          have hPb2 : 0 ≤ P ∧ P ≤ 20480 := by rw [hP, ← Int.natCast_mul]; omega
          clear q4 hb4 EC HFRC hP
          go_wp2_with fail
          refine (HWK.out _).mono ?_
          rintro e v5 ⟨rfl, hb5⟩
          have HBE := Lib.hid (ED.out.below.trans (hb5.mono ED.out.below.size))
          clear hb5
          go_wp2
          go_ret
          exact ⟨rfl, HBE.out⟩
end Go.Proofs.YtgimhjkijpcgjaaDoor
namespace Go.Proofs.YtgimhjkijpcgjaaDoor
open Go.RowKit Go.Lib

def cntV (l : List Int) (v : Int) : Nat := (l.filter fun x => x == v).length
theorem cntV_snoc (l : List Int) (x v : Int) : cntV (l ++ [x]) v = cntV l v + if (x == v) = true then 1 else 0 := by
  unfold cntV
  rw [List.filter_append, List.length_append]
  by_cases e : (x == v) = true
  · rw [if_pos e, List.filter_cons_of_pos (p := fun x => x == v) e]; rfl
  · rw [if_neg e, List.filter_cons_of_neg (p := fun x => x == v) e]; rfl
theorem cntV_le (l : List Int) (v : Int) : cntV l v ≤ l.length := List.length_filter_le _ _
theorem cntV_zero {l : List Int} {v : Int} (h : ∀ x ∈ l, x ≠ v) : cntV l v = 0 := by
  unfold cntV
  rw [List.length_eq_zero_iff, List.filter_eq_nil_iff]
  intro x hx
  simpa using h x hx
theorem cntV_pos {l : List Int} {v : Int} (h : v ∈ l) : 0 < cntV l v := by
  unfold cntV
  exact List.length_pos_of_mem (List.mem_filter.2 ⟨h, by simp⟩)
theorem cntV_mem {l : List Int} {v : Int} (h : 0 < cntV l v) : v ∈ l := by
  unfold cntV at h
  obtain ⟨x, hx⟩ := List.exists_mem_of_length_pos h
  obtain ⟨h1, h2⟩ := List.mem_filter.1 hx
  have : x = v := by simpa using h2
  exact this ▸ h1
/-- The three counts. -/
def row3 (l : List Int) : Array Value := #[.int .i64 ((cntV l 0 : Nat) : Int), .int .i64 ((cntV l 1 : Nat) : Int), .int .i64 ((cntV l 2 : Nat) : Int)]
theorem row3_get (l : List Int) {v : Nat} (hv : v < 3) : (row3 l)[v]? = some (.int .i64 ((cntV l (v : Int) : Nat) : Int)) := by
  have : v = 0 ∨ v = 1 ∨ v = 2 := by omega
  rcases this with rfl | rfl | rfl <;> rfl
theorem row3_set (l : List Int) {v : Nat} (hv : v < 3) : (row3 l).setIfInBounds v (.int .i64 ((cntV l (v : Int) : Nat) + 1 : Int)) = row3 (l ++ [(v : Int)]) := by
  have h3 : v = 0 ∨ v = 1 ∨ v = 2 := by omega
  rcases h3 with rfl | rfl | rfl <;> simp [row3, cntV_snoc]
def kindN (l : List Int) : Nat → Nat
  | 0 => 0
  | v + 1 => kindN l v + min (cntV l (v : Int)) 1
theorem kindN_le (l : List Int) (v : Nat) : kindN l v ≤ v := by
  induction v with
  | zero => exact Nat.le_refl _
  | succ v ih => show kindN l v + min (cntV l (v : Int)) 1 ≤ v + 1; omega
theorem kind_one {l : List Int} (h : Vals3 l) : oneV l = decide (kindN l 3 = 1) := by
  rw [Bool.eq_iff_iff, decide_eq_true_iff]
  show oneV l = true ↔ 0 + min (cntV l 0) 1 + min (cntV l 1) 1 + min (cntV l 2) 1 = 1
  constructor
  · intro h1
    unfold oneV at h1
    rw [Bool.and_eq_true, decide_eq_true_iff, List.all_eq_true] at h1
    obtain ⟨h1, h2⟩ := h1
    have hd := headD_get h1
    have hm : l.headD 0 ∈ l := by rw [hd]; exact List.getElem_mem h1
    have h3 := h _ hm
    have heq : ∀ x ∈ l, x = l.headD 0 := fun x hx => by simpa using h2 x hx
    generalize l.headD 0 = z at *
    have hz : z = 0 ∨ z = 1 ∨ z = 2 := by omega
    have hp := cntV_pos hm
    have hne : ∀ v : Int, v ≠ z → cntV l v = 0 := fun v hv => cntV_zero fun x hx => by rw [heq x hx]; exact fun e => hv e.symm
    rcases hz with rfl | rfl | rfl
    · rw [hne 1 (by decide), hne 2 (by decide)]; omega
    · rw [hne 0 (by decide), hne 2 (by decide)]; omega
    · rw [hne 0 (by decide), hne 1 (by decide)]; omega
  · intro h1
    have hpos : 0 < cntV l 0 ∨ 0 < cntV l 1 ∨ 0 < cntV l 2 := by omega
    have hne : 0 < l.length := by
      rcases hpos with hp | hp | hp
      · exact List.length_pos_of_mem (cntV_mem hp)
      · exact List.length_pos_of_mem (cntV_mem hp)
      · exact List.length_pos_of_mem (cntV_mem hp)
    unfold oneV
    rw [Bool.and_eq_true, decide_eq_true_iff, List.all_eq_true]
    refine ⟨hne, fun x hx => ?_⟩
    have hd := headD_get hne
    have hm : l.headD 0 ∈ l := by rw [hd]; exact List.getElem_mem hne
    have hx3 := h x hx
    have hm3 := h _ hm
    generalize l.headD 0 = z at *
    have p1 := cntV_pos hx
    have p2 := cntV_pos hm
    have hx' : x = 0 ∨ x = 1 ∨ x = 2 := by omega
    have hz' : z = 0 ∨ z = 1 ∨ z = 2 := by omega
    rcases hx' with rfl | rfl | rfl <;> rcases hz' with rfl | rfl | rfl <;> first | rfl | (exfalso; omega)
theorem arnd_mem {R : List Rd} {reg vs : List Int} {j : Nat} {k v : Int} (h : v ∈ arndK R reg vs j k) : ∃ x ∈ R, (valAt reg x.1 = k ∧ ¬ valAt reg x.2.1 = k ∧ v = valAt vs x.2.1) ∨ (valAt reg x.2.1 = k ∧ ¬ valAt reg x.1 = k ∧ v = valAt vs x.1) := by
  unfold arndK at h
  obtain ⟨x, hx, hv⟩ := List.mem_flatMap.1 h
  refine ⟨x, List.mem_of_mem_take hx, ?_⟩
  unfold arnd1 at hv
  rcases List.mem_append.1 hv with hv | hv
  · split at hv
    · rename_i hc; exact .inl ⟨hc.1, hc.2, List.mem_singleton.1 hv⟩
    · cases hv
  · split at hv
    · rename_i hc; exact .inr ⟨hc.1, hc.2, List.mem_singleton.1 hv⟩
    · cases hv
theorem valAt_vals {vs : List Int} (h : Vals3 vs) (i : Int) : 0 ≤ valAt vs i ∧ valAt vs i < 3 := by
  unfold valAt
  rw [List.getD_eq_getElem?_getD]
  cases hg : vs[i.toNat]? with
  | none => exact ⟨by decide, by decide⟩
  | some v => exact h v (List.mem_of_getElem? hg)
theorem arnd_vals {R : List Rd} {reg vs : List Int} {j : Nat} {k : Int} (h : Vals3 vs) : Vals3 (arndK R reg vs j k) := fun v hv => by
  obtain ⟨x, _, hx⟩ := arnd_mem hv
  rcases hx with ⟨_, _, rfl⟩ | ⟨_, _, rfl⟩
  · exact valAt_vals h _
  · exact valAt_vals h _
/-- No road leads out of a region to a point with the region's value. -/
theorem arnd_own {R : List Rd} {vs : List Int} {N : Nat} (hok : ∀ x ∈ R, Okr N x) {k : Nat} {j : Nat} : cntV (arndK R (lbI N (regE R vs)) vs j (k : Int)) (valAt vs (k : Int)) = 0 := by
  refine cntV_zero fun v hv => ?_
  obtain ⟨x, hx, h⟩ := arnd_mem hv
  obtain ⟨a0, a1, b0, b1, _, _, _⟩ := hok x hx
  have hag := reg_again (vs := vs) hok x hx
  have e1 := lbI_val (es := regE R vs) (show x.1.toNat < N by omega)
  have e2 := lbI_val (es := regE R vs) (show x.2.1.toNat < N by omega)
  have v1 := reg_val (vs := vs) hok (show x.1.toNat < N by omega)
  have v2 := reg_val (vs := vs) hok (show x.2.1.toNat < N by omega)
  rw [Int.toNat_of_nonneg a0] at e1 v1
  rw [Int.toNat_of_nonneg b0] at e2 v2
  have hcut : ∀ {p q : Int}, valAt (lbI N (regE R vs)) p = (k : Int) → ¬ valAt (lbI N (regE R vs)) q = (k : Int) → ((p = x.1 ∧ q = x.2.1) ∨ (p = x.2.1 ∧ q = x.1)) → valAt vs q ≠ valAt vs p := fun {p q} h1 h2 h3 h4 => by
    have hc : cutB (lbI N (regE R vs)) x = true := by
      unfold cutB
      rcases h3 with ⟨rfl, rfl⟩ | ⟨rfl, rfl⟩
      · rw [h1]; simp; exact fun e => h2 e.symm
      · rw [h1]; simp; exact h2
    rw [hc] at hag
    have hc2 : cutB vs x = true := hag.symm
    unfold cutB at hc2
    rcases h3 with ⟨rfl, rfl⟩ | ⟨rfl, rfl⟩
    · rw [h4] at hc2; simp at hc2
    · rw [h4] at hc2; simp at hc2
  rcases h with ⟨h1, h2, rfl⟩ | ⟨h1, h2, rfl⟩
  · have := hcut h1 h2 (.inl ⟨rfl, rfl⟩)
    rw [e1] at h1
    rw [← v1, h1] at this
    exact this
  · have := hcut h1 h2 (.inr ⟨rfl, rfl⟩)
    rw [e2] at h1
    rw [← v2, h1] at this
    exact this
theorem isle_pick {R : List Rd} {vs : List Int} {N : Nat} (hok : ∀ x ∈ R, Okr N x) (hv : Vals3 vs) (k : Nat) : decide ((keysOf (seeK R (lbI N (regE R vs)) vs R.length (k : Int))).length = 1) = decide (kindN (arndK R (lbI N (regE R vs)) vs R.length (k : Int)) 3 = 1) := by
  rw [← kind_one (arnd_vals hv), oneV_keys, arnd_see hok]
end Go.Proofs.YtgimhjkijpcgjaaDoor
