/-
  layer 37: Islands of the reference. Conditions: a map of New, or nil; values that are read.
-/
import Derived.Test.YtgimhjkijpcgjaaDoorGaw
namespace Go.Proofs.YtgimhjkijpcgjaaDoor
open Go.RowKit Go.Lib

theorem arnd1_val {reg vs : List Int} {k : Int} {a b l ra rb va vb : Int} (h1 : valAt reg a = ra) (h2 : valAt reg b = rb) (h3 : valAt vs a = va) (h4 : valAt vs b = vb) : arnd1 reg vs k (a, b, l) = (if ra = k ∧ ¬ rb = k then [vb] else []) ++ (if rb = k ∧ ¬ ra = k then [va] else []) := by
  unfold arnd1
  rw [h1, h2, h3, h4]
theorem oneV_step (l : List Int) {i : Nat} (hi : i < l.length) : (l.take (i + 1)).all (fun v => v == l.headD 0) = ((l.take i).all (fun v => v == l.headD 0) && (l[i] == l.headD 0)) := by
  rw [List.take_succ_eq_append_getElem hi, List.all_append]
  simp
theorem headD_get {l : List Int} (h : 0 < l.length) : l.headD 0 = l[0] := by cases l with
  | nil => simp at h
  | cons x l => rfl
set_option linter.unusedSimpArgs false in
set_option maxRecDepth 40000 in
set_option maxHeartbeats 8000000 in
theorem refIslands_any (p : Option Addr) (om : Option Pts) (A : Option Addr) (n c : Nat) (vs : List Int) (w : World) (h : RefO w p om) (hG : NewO om) (hv : ReadI w w.heap.size A n vs) (hn : n ≤ c) (hc : c ≤ maxLen) :
    Calls Tryd.prog 18 #[.pointer p, .slice A n c] w (GivesE w (islV om vs) (chkN (lenO om) [vs])) := by
  have hrg := refRegions_any p om A n c vs w h hG hv hn hc
  have hrd := fun W (hW : Below w.heap.size w W) => refRoads_any p om W (h.below hW) hG.roads
  have hok := hG.okr
  have h512 := hG.roads
  have hfew := hG.few
  have hlv := hv.len
  have hz : chkN (lenO om) [vs] = 0 → lenO om = n ∧ 0 < lenO om := fun e => ⟨by rw [← hlv]; exact ((chkN_zero e).2.2 vs (by simp)).symm, by have := (chkN_zero e).1; omega⟩
  obtain ⟨i0, hi, hz0, hz1, hz2⟩ := info_parts (show (Tryd.prog.info? 3).map (fun i => (i.zero, i.size, i.bytes)) = some (some (.int .i64 0), 1, 8) by kernel_rfl)
  have HRD := Lib.hid hrd; have HOK := Lib.hid hok; have HV := Lib.hid hv; have HZ := Lib.hid hz
  clear h hG hrd hok hv hz
  unfold GivesE islV
  unfold GivesE regV at hrg
  generalize lenO om = N at *
  generalize roadsO om = R at *
  obtain ⟨E, hE⟩ : ∃ E, chkN N [vs] = E := ⟨_, rfl⟩
  rw [hE] at hrg ⊢
  by_cases h0 : E = 0
  · rw [h0] at hE hrg ⊢
    rw [if_pos rfl] at hrg ⊢
    obtain ⟨rfl, hN⟩ := HZ.out hE
    clear HZ hE h0
    have HSEE : Hid (∀ k : Int, oneV (arndK R (lbI N (regE R vs)) vs R.length k) = decide ((keysOf (seeK R (lbI N (regE R vs)) vs R.length k)).length = 1)) := Lib.hid (fun k => by rw [oneV_keys, arnd_see HOK.out])
    have hrl : (lbI N (regE R vs)).length = N := by simp [lbI]
    generalize lbI N (regE R vs) = reg at *
    rw [hrl] at hrg
    go_enter Tryd.func18, Tryd.ntmps18
    go_wp2_with fail
    refine hrg.mono ?_
    rintro e w1 ⟨vG, rfl, hoG, hb1⟩
    obtain ⟨AG, cG, rfl, _, _⟩ := ownsRow_form hoG
    have hr := HRD.out _ hb1
    have HOG := Lib.hid (Reads.of_own hoG); have HB1 := Lib.hid hb1
    clear hoG hb1 hrg HRD
    go_wp2_with fail
    refine hr.mono ?_
    rintro e w2 ⟨vR, rfl, hoR, hb2⟩
    obtain ⟨AR, cR, rfl, _, _⟩ := ownsRow_form hoR
    have HR := Lib.hid (Reads.of_own hoR)
    have HRG : Hid (ReadI w2 w2.heap.size AG N reg) := Lib.hid (ReadI.later HOG.out hb2)
    have HB2 := Lib.hid (HB1.out.trans (hb2.mono HB1.out.size))
    have HRV : Hid (ReadI w2 w2.heap.size A N vs) := Lib.hid (ReadI.later HV.out HB2.out)
    have HRL := Lib.hid hrl; have HLV := Lib.hid hlv
    clear hoR hb2 hr HOG HB1 HV hrl hlv
    go_wp2
    go_loopw [8, 10] (fun v i wr => ∃ k : Nat, k ≤ N ∧ i = .int .i64 k ∧ wr.ownsRow w2.heap.size 3 1 v (isleN R reg vs k).length ((intsL (isleN R reg vs k)).map (Value.int .i64)) ∧ Below w2.heap.size w2 wr) (fun _ i _ => N - (intOf i).toNat)
    case atStart => exact ⟨0, by omega, rfl, World.ownsRow_nil _ _ _ _, Below.refl _ _⟩
    case round =>
      obtain ⟨k, hk, rfl, hown, hb⟩ := hrel
      have hst := isle_step R reg vs k
      have hlk := isle_len R reg vs k
      obtain ⟨L, hL⟩ : ∃ L, isleN R reg vs k = L := ⟨_, rfl⟩
      rw [hL] at hown hlk hst
      have HB := Lib.hid hb; have HO := Lib.hid hown; have HL := Lib.hid hL
      clear hb hown hL
      by_cases hltk : k < N
      · have hltI : (k : Int) < (N : Int) := by omega
        rw [← HSEE.out] at hst
        have HST := Lib.hid hst
        clear hst
        obtain ⟨wo, rfl⟩ : ∃ wo : World, wo = wr := ⟨_, rfl⟩
        go_wp2
        go_loopw [11, 12] (fun v i wr => ∃ j : Nat, j ≤ R.length ∧ i = .int .i64 j ∧ wr.ownsRow wo.heap.size 3 1 v (arndK R reg vs j (k : Int)).length ((arndK R reg vs j (k : Int)).map (Value.int .i64)) ∧ Below wo.heap.size wo wr) (fun _ i _ => R.length - (intOf i).toNat)
        case atStart => exact ⟨0, by omega, rfl, World.ownsRow_nil _ _ _ _, Below.refl _ _⟩
        case round =>
          obtain ⟨j, hj, rfl, hownj, hbj⟩ := hrel
          have hlj := arndK_len R reg vs j (k : Int)
          have HBJ := Lib.hid hbj
          have HBJ2 := Lib.hid (HB.out.trans (hbj.mono HB.out.size))
          by_cases hlt : j < R.length
          · have hsj := arndK_step R reg vs hlt (k : Int)
            obtain ⟨bd, rfl, hbd, hc0, hc1, hc2⟩ := roadI_cells HR.out hlt
            have hxm := HOK.out _ (List.getElem_mem hlt)
            obtain ⟨x, hx⟩ : ∃ x, R[j] = x := ⟨_, rfl⟩
            rw [hx] at hc0 hc1 hc2 hxm hsj
            clear hx
            obtain ⟨xa, xb, xl⟩ := x
            obtain ⟨a0, a1, b0, b1, hab, _, _⟩ := hxm
            simp only at hc0 hc1 hc2 a0 a1 b0 b1
            obtain ⟨a, rfl⟩ : ∃ k : Nat, xa = k := ⟨xa.toNat, by omega⟩
            obtain ⟨b, rfl⟩ : ∃ k : Nat, xb = k := ⟨xb.toNat, by omega⟩
            have har : a < reg.length := by rw [HRL.out]; omega
            have hbr : b < reg.length := by rw [HRL.out]; omega
            have hav : a < vs.length := by rw [HLV.out]; omega
            have hbv : b < vs.length := by rw [HLV.out]; omega
            obtain ⟨ag, rfl, hag, ga, gb⟩ := readI_two HRG.out har hbr
            obtain ⟨av, rfl, hav', va, vb⟩ := readI_two HRV.out hav hbv
            have hval := arnd1_val (k := (k : Int)) (l := xl) (valAt_get har) (valAt_get hbr) (valAt_get hav) (valAt_get hbv)
            rw [hval] at hsj
            replace ga := (HBJ2.out.cell (p := ag.add a) (by rw [block_of_add]; exact hag)).trans ga
            replace gb := (HBJ2.out.cell (p := ag.add b) (by rw [block_of_add]; exact hag)).trans gb
            replace va := (HBJ2.out.cell (p := av.add a) (by rw [block_of_add]; exact hav')).trans va
            replace vb := (HBJ2.out.cell (p := av.add b) (by rw [block_of_add]; exact hav')).trans vb
            replace hc0 := (HBJ2.out.cell (p := bd.add (j * 3)) (by rw [block_of_add]; exact hbd)).trans hc0
            replace hc1 := (HBJ2.out.cell (p := ⟨(bd.add (j * 3)).block, (bd.add (j * 3)).off + 1, none⟩) (by show (bd.add (j * 3)).block < _; rw [block_of_add]; exact hbd)).trans hc1
            clear hval hc2
            generalize reg[a] = ra at *
            generalize reg[b] = rb at *
            generalize vs[a] = xva at *
            generalize vs[b] = xvb at *
            have hjI : (j : Int) < (R.length : Int) := by omega
            have haI : (a : Int) < (N : Int) := by omega
            have hbI : (b : Int) < (N : Int) := by omega
            have HSJ := Lib.hid hsj
            obtain ⟨L2, hL2⟩ : ∃ L2, arndK R reg vs j (k : Int) = L2 := ⟨_, rfl⟩
            rw [hL2] at hownj hlj HSJ
            have HL2 := Lib.hid hL2
            have HOJ := Lib.hid hownj
            have HOD : Hid (wr.drew.ownsRow _ _ _ _ _ _) := Lib.hid hownj
            have hszj := HBJ.out.size
            clear hsj hL2 hbj hownj
            have hsz2 := HB.out.size
            by_cases h1 : ra = (k : Int)
            · subst h1
              by_cases h2 : rb = (k : Int)
              · subst h2
                have HSJ' : Hid (arndK R reg vs (j + 1) (k : Int) = L2) := Lib.hid (by rw [HSJ.out]; simp)
                go_wp2
                go_region
                go_wp2
                go_roundw
                case rel => exact ⟨j + 1, by omega, by go_num, by rw [HSJ'.out]; exact ⟨HOJ.out, HBJ.out.drew⟩⟩
                case measure => simp [intOf]; omega
              · have h2a : (rb == (k : Int)) = false := beq_false_of_ne h2
                have h2b : (rb != (k : Int)) = true := by simp [h2]
                have HSJ' : Hid (arndK R reg vs (j + 1) (k : Int) = L2 ++ [xvb]) := Lib.hid (by rw [HSJ.out]; simp [h2])
                go_wp2
                go_region
                have HRN := Lib.hid (reads_new wr.drew 3 [.int .i64 xvb])
                have HB6R := Lib.hid (fun (w6 : World) (row : Option Nat) (hg : World.grownBy (wr.drew.alloc (.cells #[.int .i64 xvb] 3)) w6 row) (hr : ∀ g, row = some g → wo.heap.size ≤ g) => (((Below.refl wo.heap.size wr).drew.alloc hszj (.cells #[.int .i64 xvb] 3)).grown hg (by rw [World.size_alloc]; show wo.heap.size ≤ wr.heap.size + 1; omega) hr))
                go_wp2_with (at_builtin; refine wpList_append_any _ rfl _ _ 26 rfl wo.heap.size 3 i0 (.int .i64 0) 1 8 Tryd.underlying26 hi hz0 hz1 hz2 rfl (by decide) _ _ _ rfl (World.ownsRow.alloc HOD.out _) _ _ _ _ [.int .i64 xvb] rfl HRN.out (by simp [Value.oneCell']) (by unfold maxLen; omega) (by omega) (by simp; omega) ?_; intro v' w6 hown' hgrow hx; clear hx; have hb6 := HB6R.out _ _ hgrow (fun g hg => (HOJ.out.lt g hg).1); clear hgrow; have gb6 := (hb6.cell (p := ag.add b) (by rw [block_of_add]; omega)).trans gb)
                have HB6 := Lib.hid (HBJ.out.trans hb6)
                clear hb6
                go_roundw
                case rel => exact ⟨j + 1, by omega, by go_num, by rw [HSJ'.out]; rw [List.length_append]; exact ⟨by simpa using hown', HB6.out⟩⟩
                case measure => simp [intOf]; omega
            · have h1a : (ra == (k : Int)) = false := beq_false_of_ne h1
              have h1b : (ra != (k : Int)) = true := by simp [h1]
              by_cases h2 : rb = (k : Int)
              · subst h2
                have HSJ' : Hid (arndK R reg vs (j + 1) (k : Int) = L2 ++ [xva]) := Lib.hid (by rw [HSJ.out]; simp [h1])
                go_wp2
                go_region
                have HRN := Lib.hid (reads_new wr.drew 3 [.int .i64 xva])
                have HB6R := Lib.hid (fun (w6 : World) (row : Option Nat) (hg : World.grownBy (wr.drew.alloc (.cells #[.int .i64 xva] 3)) w6 row) (hr : ∀ g, row = some g → wo.heap.size ≤ g) => (((Below.refl wo.heap.size wr).drew.alloc hszj (.cells #[.int .i64 xva] 3)).grown hg (by rw [World.size_alloc]; show wo.heap.size ≤ wr.heap.size + 1; omega) hr))
                go_wp2_with (at_builtin; refine wpList_append_any _ rfl _ _ 26 rfl wo.heap.size 3 i0 (.int .i64 0) 1 8 Tryd.underlying26 hi hz0 hz1 hz2 rfl (by decide) _ _ _ rfl (World.ownsRow.alloc HOD.out _) _ _ _ _ [.int .i64 xva] rfl HRN.out (by simp [Value.oneCell']) (by unfold maxLen; omega) (by omega) (by simp; omega) ?_; intro v' w6 hown' hgrow hx; clear hx; have hb6 := HB6R.out _ _ hgrow (fun g hg => (HOJ.out.lt g hg).1); clear hgrow)
                have HB6 := Lib.hid (HBJ.out.trans hb6)
                clear hb6
                go_roundw
                case rel => exact ⟨j + 1, by omega, by go_num, by rw [HSJ'.out]; rw [List.length_append]; exact ⟨by simpa using hown', HB6.out⟩⟩
                case measure => simp [intOf]; omega
              · have h2a : (rb == (k : Int)) = false := beq_false_of_ne h2
                have HSJ' : Hid (arndK R reg vs (j + 1) (k : Int) = L2) := Lib.hid (by rw [HSJ.out]; simp [h1, h2])
                go_wp2
                go_region
                go_wp2
                go_roundw
                case rel => exact ⟨j + 1, by omega, by go_num, by rw [HSJ'.out]; exact ⟨HOJ.out, HBJ.out.drew⟩⟩
                case measure => simp [intOf]; omega
          · skip
            obtain rfl : R.length = j := by omega
            obtain ⟨L2, hL2⟩ : ∃ L2, arndK R reg vs R.length (k : Int) = L2 := ⟨_, rfl⟩
            rw [hL2] at hownj hlj HST
            have HOJ := Lib.hid hownj
            clear hL2 hbj hownj
            obtain ⟨wq, rfl⟩ : ∃ wq : World, wq = wr := ⟨_, rfl⟩
            by_cases hl0 : 0 < L2.length
            · have hl0I : (0 : Int) < (L2.length : Int) := by omega
              obtain ⟨q, d, rfl, _, _⟩ := HOJ.out.form hl0
              have hz0' := HOJ.out.cellAt 0 (by omega)
              rw [List.getElem?_map, List.getElem?_eq_getElem hl0] at hz0'
              have hq := HOJ.out.lt q rfl
              have HZ0 := Lib.hid hz0'; have HH := Lib.hid (headD_get hl0); have HQ := Lib.hid hq
              clear hz0' hq
              generalize L2[0] = y0 at *
              have HONE : Hid (oneV L2 = L2.all fun v => v == y0) := Lib.hid (by unfold oneV; rw [decide_eq_true hl0, HH.out]; simp)
              go_wp2
              go_loopw [15, 16] (fun v i wr => ∃ m : Nat, m ≤ L2.length ∧ i = .int .i64 m ∧ v = .bool ((L2.take m).all fun v => v == y0) ∧ Below wq.heap.size wq wr) (fun _ i _ => L2.length - (intOf i).toNat)
              case atStart => exact ⟨0, by omega, rfl, by rw [List.take_zero]; rfl, Below.refl _ _⟩
              case round =>
                obtain ⟨m, hm, rfl, rfl, hbm⟩ := hrel
                have HBM := Lib.hid hbm
                clear hbm
                by_cases hltm : m < L2.length
                · have hs := oneV_step L2 hltm
                  rw [HH.out] at hs
                  have HOM := own_below HOJ.out HBM.out
                  have hm0 := HOM.cellAt 0 (by omega)
                  have hm1 := HOM.cellAt m (by omega)
                  rw [List.getElem?_map, List.getElem?_eq_getElem hl0] at hm0
                  rw [List.getElem?_map, List.getElem?_eq_getElem hltm] at hm1
                  have e0 : L2[0] = y0 := (headD_get hl0).symm.trans HH.out
                  rw [e0] at hm0
                  simp only [Option.map_some] at hm0 hm1
                  generalize L2[m] = y at hm1 hs
                  have hltmI : (m : Int) < (L2.length : Int) := by omega
                  obtain ⟨bb, hbb⟩ : ∃ bb, ((L2.take m).all fun v => v == y0) = bb := ⟨_, rfl⟩
                  rw [hbb] at hs ⊢
                  have HS := Lib.hid hs
                  clear hs hbb HOM e0
                  cases bb
                  · go_wp2
                    go_region
                    go_wp2
                    go_roundw
                    case rel => exact ⟨m + 1, by omega, by go_num, by rw [HS.out]; rfl, HBM.out.drew⟩
                    case measure => simp [intOf]; omega
                  · go_wp2
                    go_region
                    go_wp2
                    go_roundw
                    case rel => exact ⟨m + 1, by omega, by go_num, by rw [HS.out, Bool.true_and], HBM.out.drew⟩
                    case measure => simp [intOf]; omega
                · obtain rfl : m = L2.length := by omega
                  rw [List.take_length]
                  rw [← HONE.out]
                  obtain ⟨wz, rfl⟩ : ∃ wz : World, wz = wr := ⟨_, rfl⟩
                  have HBZ := Lib.hid (HBJ.out.trans (HBM.out.mono HBJ.out.size))
                  obtain ⟨on, hon⟩ : ∃ on, oneV L2 = on := ⟨_, rfl⟩
                  rw [hon]
                  have HON := Lib.hid hon
                  clear hon
                  cases on
                  · skip
                    have HOZ := Lib.hid (own_below HO.out HBZ.out)
                    go_wp2
                    go_roundw
                    case rel => exact ⟨k + 1, by omega, by go_num, by rw [HST.out, if_neg (by rw [HON.out]; simp), List.append_nil]; exact HOZ.out, HB.out.trans (HBZ.out.mono HB.out.size)⟩
                    case measure => simp [intOf]; omega
                  · skip
                    have hrn := reads_new wz 3 [.int .i64 (k : Int)]
                    have HRN := Lib.hid hrn
                    have HOZ := Lib.hid (own_below HO.out HBZ.out)
                    clear hrn
                    go_wp2_with (at_builtin; refine wpList_append_any _ rfl _ _ 26 rfl w2.heap.size 3 i0 (.int .i64 0) 1 8 Tryd.underlying26 hi hz0 hz1 hz2 rfl (by decide) _ _ _ rfl (World.ownsRow.alloc HOZ.out _) _ _ _ _ [.int .i64 (k : Int)] rfl HRN.out (by simp [Value.oneCell']) (by unfold maxLen; omega) (by omega) (by have := HB.out.size; have := HBZ.out.size; simp; omega) ?_; intro v' w6 hown' hgrow hx; clear hx)
                    have hb6 : Below w2.heap.size w2 w6 := ((HB.out.trans (HBZ.out.mono HB.out.size)).alloc (Nat.le_trans HB.out.size HBZ.out.size) _).grown hgrow (by have := HB.out.size; have := HBZ.out.size; simp; omega) (fun g hg => (HOZ.out.lt g hg).1)
                    clear hgrow
                    go_roundw
                    case rel => exact ⟨k + 1, by omega, by go_num, by rw [HST.out, if_pos HON.out, List.length_append]; simpa using hown', hb6⟩
                    case measure => simp [intOf]; omega
            · obtain rfl : L2 = [] := List.eq_nil_of_length_eq_zero (by omega)
              have HON : Hid (oneV [] = false) := Lib.hid rfl
              rw [List.length_nil] at HOJ
              obtain ⟨A5, c5, rfl, _, _⟩ := ownsRow_form HOJ.out
              go_wp2
              go_loopw [15, 16] (fun v i wr => i = .int .i64 0 ∧ v = .bool false ∧ Below wq.heap.size wq wr) (fun _ _ _ => 0)
              case atStart => exact ⟨rfl, by simp, Below.refl _ _⟩
              case round =>
                obtain ⟨rfl, rfl, hbm⟩ := hrel
                obtain ⟨wz, rfl⟩ : ∃ wz : World, wz = wr := ⟨_, rfl⟩
                have HBZ := Lib.hid (HBJ.out.trans (hbm.mono HBJ.out.size))
                clear hbm
                have HOZ := Lib.hid (own_below HO.out HBZ.out)
                go_wp2
                go_roundw
                case rel => exact ⟨k + 1, by omega, by go_num, by rw [HST.out, if_neg (by rw [HON.out]; simp), List.append_nil]; exact HOZ.out, HB.out.trans (HBZ.out.mono HB.out.size)⟩
                case measure => simp [intOf]; omega
      · obtain rfl : k = N := by omega
        clear hst
        go_wp2
        go_ret2
        exact ⟨_, rfl, by rw [HL.out, intsL, List.length_map]; exact own_mono HO.out HB2.out.size, HB2.out.trans (HB.out.mono HB2.out.size)⟩
  · rw [if_neg h0] at hrg ⊢
    have h0B : (E != 0) = true := by simp [h0]
    clear HRD HOK HZ hE
    go_enter Tryd.func18, Tryd.ntmps18
    go_wp2_with fail
    refine hrg.mono ?_
    rintro e w1 ⟨v, rfl, ho, hb1⟩
    have HB1 := Lib.hid hb1
    clear hb1 hrg
    go_wp2
    go_ret2
    exact ⟨_, rfl, World.ownsRow_nil _ _ _ _, HB1.out⟩
end Go.Proofs.YtgimhjkijpcgjaaDoor
