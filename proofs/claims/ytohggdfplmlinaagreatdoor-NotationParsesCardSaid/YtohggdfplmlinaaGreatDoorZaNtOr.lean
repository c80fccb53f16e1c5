/-
  layer 4 at the second seat: the reference's read. Conditions: a notation in memory, a text of at most maxLen bytes. (Printed by orgen.py.)
-/
import Derived.Test.YtohggdfplmlinaaGreatDoorZaao
import Derived.Test.YtohggdfplmlinaaGreatDoorZaap
import Derived.Deep.QuietTactic
import Derived.Deep.DeepCutAuto
import Derived.BigQuiet
namespace Go.Proofs.YtohggdfplmlinaaGreatDoor
open Go.RowKit Go.Lib

theorem results_tmp4 {fn : Func} {t u v x : Tmp} (h : fn.results = #[.tmp t, .tmp u, .tmp v, .tmp x]) (tmps : Array Value) (P : Program) (w : World) :
    (results fn tmps).run P w = .ok (.tuple #[tmps.getD t undef, tmps.getD u undef, tmps.getD v undef, tmps.getD x undef]) w := by
  simp [results, h]
theorem rnot_parts {w : World} {S : Nat → Prop} {g : Nat} {fs : List ByteArray} {L : List Nam} {ms : List Mk} (h : RNot w S g fs L ms) : (∀ m ∈ ms, okMk m) ∧ InvOk fs L := by
  obtain ⟨_, _, _, -, h2, -, h1, -⟩ := h
  exact ⟨h1, h2.ok⟩
set_option linter.unusedSimpArgs false in
set_option maxRecDepth 20000 in
set_option maxHeartbeats 8000000 in
theorem rread_any {w : World} {S : Nat → Prop} {g : Nat} {fs : List ByteArray} {L : List Nam} {ms : List Mk} (s : ByteArray) (h : RNot w S g fs L ms) (hs : s.size ≤ maxLen) :
    Calls Tryz.prog 44 #[wptr g, .string s] w (ReadPost w (readR L ms (bs s))) := by
  obtain ⟨i1, hi1, hx0, hx1, hx2⟩ := info_parts (show (Tryz.prog.info? 30).map (fun i => (i.zero, i.size, i.bytes)) = some (some (.agg #[.int .u32 0, .int .u32 0]), 2, 8) by kernel_rfl)
  obtain ⟨i2, hi2, hy0, hy1, hy2⟩ := info_parts (show (Tryz.prog.info? 9).map (fun i => (i.zero, i.size, i.bytes)) = some (some (.string ByteArray.empty), 1, 16) by kernel_rfl)
  obtain ⟨hMK, hIOK⟩ := rnot_parts h
  have HN := Lib.hid h; have HMK := Lib.hid hMK; have HIOK := Lib.hid hIOK
  clear h hMK hIOK
  unfold maxLen at hs
  go_enter Tryz.func44, Tryz.ntmps44
  go_wp2
  go_loopw [8, 9, 10] (fun a b i wr => ∃ (j : Nat) (ws : List Snd) (ts : List (List UInt8)) (v u : Value), a = v ∧ b = u ∧ i = .int .i64 j ∧ RdI L ms (bs s) j ws ts ∧ wr.ownsRow w.heap.size 30 2 v ws.length (ws.flatMap sndC) ∧ wr.ownsRow w.heap.size 9 1 u ts.length (ts.map fun t => .string (asB t)) ∧ Below w.heap.size w wr) (fun _ _ i _ => s.size - (RowKit.intOf i).toNat)
  case atStart => exact ⟨0, [], [], .slice none 0 0, .slice none 0 0, rfl, rfl, rfl, rdI_start L ms (bs s), World.ownsRow_nil _ _ _ _, World.ownsRow_nil _ _ _ _, Below.refl _ _⟩
  case round =>
    obtain ⟨j, ws, ts, v, u, rfl, rfl, rfl, hrd, ho1, ho2, hb⟩ := hrel
    obtain ⟨wo, rfl⟩ : ∃ W, W = wr := ⟨_, rfl⟩
    obtain ⟨A1, c1, rfl, hc1, hm1⟩ := ownsRow_form ho1
    obtain ⟨A2, c2, rfl, hc2, hm2⟩ := ownsRow_form ho2
    have HRD := Lib.hid hrd; have HO1 := Lib.hid ho1; have HO2 := Lib.hid ho2; have HB := Lib.hid hb
    have hj : j ≤ s.size := by have := hrd.le; rwa [size_bs] at this
    have hw32 := hrd.most
    have HWT := Lib.hid hrd.len
    clear hrd ho1 ho2 hb
    by_cases hlt : j < s.size
    · have hjI : (j : Int) < (s.size : Int) := by omega
      have hj0 : (0 : Int) ≤ (j : Int) := by omega
      have hjb : j < (bs s).length := by rw [size_bs]; exact hlt
      have hhead : ((bs s).drop j).head? = some (s[j]'hlt) := by rw [List.head?_drop, List.getElem?_eq_getElem hjb]; rfl
      obtain ⟨d, hd⟩ : ∃ d, skipD j ((bs s).drop j) = d := ⟨_, rfl⟩
      have hskip : d = if 0 < j ∧ s[j]'hlt = 46 then 1 else 0 := by rw [← hd]; unfold skipD; rw [hhead]; simp only [Option.some.injEq]
      have hpos := HRD.out.pos
      have hform := HRD.out.form hjb
      have hstep := fun x m => HRD.out.step hjb x m
      obtain ⟨kk, hkk⟩ : ∃ kk, j + d = kk := ⟨_, rfl⟩
      simp only [hd, hkk, size_bs] at hform hstep
      have hkl : kk ≤ s.size := by rw [← hkk, hskip]; split <;> omega
      have hkj : j ≤ kk := by omega
      obtain ⟨dt, hdt⟩ : ∃ dt, decide (0 < ws.length ∧ s[j]'hlt = 46) = dt := ⟨_, rfl⟩
      have hkd : kk = j + (if dt = true then 1 else 0) := by
        rw [← hkk, hskip, ← hdt]
        simp only [hpos, decide_eq_true_eq]
      have hx256 : (((s[j]'hlt).toNat : Nat) : Int) < 256 := by have := (s[j]'hlt).toNat_lt; omega
      have HFORM := Lib.hid hform; have HSTEP := Lib.hid hstep; have HDT := Lib.hid hdt; have HKD := Lib.hid hkd
      clear hform hstep hdt hkd hpos hskip hhead hd hkk hjb
      go_upto_region 5 with fail
      go_cut [30] (fun v wx => v = .bool dt ∧ wo = wx)
      case first =>
        by_cases hl : 0 < ws.length
        · have hlI : (0 : Int) < (ws.length : Int) := by omega
          have hs0 : 0 < s.size := by omega
          by_cases h46 : s[j]'hlt = 46
          · have h46I : ((s[j]'hlt).toNat : Int) = 46 := by rw [h46]; rfl
            have e : dt = true := by rw [← HDT.out]; exact decide_eq_true ⟨hl, h46⟩
            subst e
            clear h46 HDT
            go_wp2
            go_meet
            exact ⟨rfl, rfl⟩
          · have h46I : ((((s[j]'hlt).toNat : Nat) : Int) == 46) = false := by
              rw [beq_eq_false_iff_ne]
              exact fun e => h46 (by
                have e2 : (s[j]'hlt).toNat = 46 := by omega
                exact UInt8.toNat_inj.1 e2)
            have e : dt = false := by rw [← HDT.out]; exact decide_eq_false fun h => h46 h.2
            subst e
            clear h46 HDT
            go_wp2
            go_meet
            exact ⟨rfl, rfl⟩
        · have hlI : ¬ (0 : Int) < (ws.length : Int) := by omega
          have e : dt = false := by rw [← HDT.out]; exact decide_eq_false fun h => hl h.1
          subst e
          clear HDT
          go_wp2
          go_meet
          exact ⟨rfl, rfl⟩
      case rest =>
      obtain ⟨rfl, rfl⟩ := hcut
      clear HDT hx256
      go_upto_if 30 with fail
      go_cut [10] (fun v wx => v = .int .i64 kk ∧ wo = wx)
      case first =>
        have hkd := HKD.out
        cases dt with
        | true =>
          have hke : (kk : Int) = (j : Int) + 1 := by rw [hkd]; rfl
          have HKE := Lib.hid hke
          clear hkd hke
          go_wp2
          go_meet
          exact ⟨by rw [HKE.out], rfl⟩
        | false =>
          obtain rfl : kk = j := hkd
          clear HKD
          go_wp2
          go_meet
          exact ⟨rfl, rfl⟩
      case rest =>
      obtain ⟨rfl, rfl⟩ := hcut
      have hkI : (kk : Int) ≤ (s.size : Int) := by omega
      have hk0 : (0 : Int) ≤ (kk : Int) := by omega
      clear HKD
      have hN := HN.out.below HB.out
      obtain ⟨gi, A, c, ⟨hg, -⟩, hI, ⟨hrow, -⟩, -, -⟩ := hN
      have g1 := hg.cell 1
      simp only [List.getElem?_toArray, List.getElem?_cons_zero, List.getElem?_cons_succ] at g1
      obtain ⟨n0, hn0⟩ : ∃ n, longN L ((bs s).drop kk) = n := ⟨_, rfl⟩
      have hlq : ∀ n, Calls Tryz.prog 73 #[wptr gi, .string (s.extract kk s.size)] (wo.drewN n) fun e w' => e = .returned (.tuple #[.string (asB (((bs s).drop kk).take n0)), .bool (decide (0 < n0))]) ∧ ∃ m, w' = wo.drewN m := fun n => (rlongest_any (s.extract kk s.size) (show RInv (wo.drewN n) S gi fs L from hI)).mono (by
        rintro e w' ⟨t, rfl, ⟨ht, -⟩, rfl⟩
        rw [bs_drop, hn0] at ht
        rw [bs_drop, hn0]
        obtain rfl : t = asB (((bs s).drop kk).take n0) := str_eq (show t.data.toList = _ from ht)
        exact ⟨rfl, n, rfl⟩)
      have HROW := Lib.hid (Reads.of_own hrow); have HG := Lib.hid hg; have HI := Lib.hid hI
      clear hrow hg hI
      go_upto_region 7 with fail
      by_cases hz : n0 = 0
      · have hE := HFORM.out (hn0.trans hz)
        have HE := Lib.hid hE
        rw [decide_eq_false (show ¬ 0 < n0 by omega)] at hlq
        have HLQ := Lib.hid hlq
        clear hlq hE hz hn0 HSTEP HFORM
        go_quiet ((go_at_call 73; exact HLQ.out _))
        obtain ⟨w2, hw2⟩ : ∃ W, wo.drewN nq = W := ⟨_, rfl⟩
        have hb2 : Below w.heap.size w w2 := by rw [← hw2]; exact bdrewN HB.out _
        have HB2 := Lib.hid hb2
        rw [hw2]
        clear hw2 hb2 g1 HLQ
        go_wp2
        (try simp only [Exit.inBlock, Exit.then])
        refine bodyPost_ret (results_tmp4 rfl _ _ _) rfl ?_
        rw [HE.out]
        exact ⟨_, _, rfl, World.ownsRow_nil _ _ _ _, World.ownsRow_nil _ _ _ _, HB2.out⟩
      · have hunit : unitR L ms ((bs s).drop kk) = some (marksR ms 4 ((bs s).drop kk) (soundOf L (((bs s).drop kk).take n0)) n0) := by unfold unitR; rw [hn0, if_neg hz]
        obtain ⟨⟨xf, mf⟩, hmr⟩ : ∃ p, marksR ms 4 ((bs s).drop kk) (soundOf L (((bs s).drop kk).take n0)) n0 = p := ⟨_, rfl⟩
        rw [hmr] at hunit
        obtain ⟨-, -, hm0, hml⟩ := unitR_some hunit
        have hdl : ((bs s).drop kk).length = s.size - kk := by rw [List.length_drop, size_bs]
        rw [hdl] at hml
        obtain ⟨hlong, hnext⟩ := HSTEP.out xf mf hunit hm0 (by omega)
        have hsl := longN_le L ((bs s).drop kk)
        rw [hn0, hdl] at hsl
        rw [decide_eq_true (show 0 < n0 by omega)] at hlq
        have hsok := soundOf_ok HIOK.out (((bs s).drop kk).take n0)
        obtain ⟨x0, hx0'⟩ : ∃ x, soundOf L (((bs s).drop kk).take n0) = x := ⟨_, rfl⟩
        rw [hx0'] at hmr hsok
        have hsnd := fun W (hW : Below wo.heap.size wo W) => rsound1_any (asB (((bs s).drop kk).take n0)) (HI.out.below hW)
        rw [bs_asB (((bs s).drop kk).take n0), hx0'] at hsnd
        have hsz0 : (asB (((bs s).drop kk).take n0)).size = n0 := by rw [← size_bs, bs_asB (((bs s).drop kk).take n0), List.length_take, hdl]; omega
        generalize asB (((bs s).drop kk).take n0) = sy at *
        obtain ⟨hh, hhh⟩ : ∃ b, hasSym L (((bs s).drop kk).take n0) = b := ⟨_, rfl⟩
        rw [hhh] at hsnd
        have HLQ := Lib.hid hlq; have HSN := Lib.hid hsnd; have HMR := Lib.hid hmr; have HLONG := Lib.hid hlong; have HNEXT := Lib.hid hnext; have HSOK := Lib.hid hsok; have HDL := Lib.hid hdl
        clear hlq hsnd hmr hlong hnext hsok hunit hn0 hx0' hdl hhh HFORM HSTEP
        go_quiet ((go_at_call 73; exact HLQ.out _))
        obtain ⟨w2, hw2⟩ : ∃ W, wo.drewN nq = W := ⟨_, rfl⟩
        have hb2 : Below wo.heap.size wo w2 := by rw [← hw2]; exact ⟨rfl, rfl, rfl, Nat.le_refl _, fun _ _ => rfl⟩
        rw [hw2]
        have g1' : w2.cell? ⟨g, 1, none⟩ = some (wptr gi) := by rw [← hw2]; exact g1
        have HB2 := Lib.hid hb2
        clear hw2 hb2 g1 HLQ
        by_cases h32 : ws.length = 32
        · have h32I : ((ws.length : Int) == 32) = true := by rw [h32]; rfl
          have hE := HLONG.out h32
          have HE := Lib.hid hE
          clear hE HLONG HNEXT h32 hw32
          go_wp2
          (try simp only [Exit.inBlock, Exit.then])
          refine bodyPost_ret (results_tmp4 rfl _ _ _) rfl ?_
          rw [HE.out]
          exact ⟨_, _, rfl, World.ownsRow_nil _ _ _ _, World.ownsRow_nil _ _ _ _, HB.out.trans (HB2.out.mono HB.out.size)⟩
        · have h32I : ((ws.length : Int) == 32) = false := by rw [beq_eq_false_iff_ne]; omega
          have HNEXT := Lib.hid (HNEXT.out h32)
          clear HLONG
          go_wp2_with fail
          refine (HSN.out w2 HB2.out).mono ?_
          rintro e w3 ⟨rfl, hb3⟩
          have hb3' := HB2.out.trans (hb3.mono HB2.out.size)
          have HB3 := Lib.hid hb3'
          clear hb3 hb3' g1'
          have hbx := Blk.new w3 30 #[.int .u32 x0.1, .int .u32 x0.2]
          have hba := HB3.out.alloc HB3.out.size (.cells #[.int .u32 x0.1, .int .u32 x0.2] 30)
          have hbxo : wo.heap.size ≤ w3.heap.size := HB3.out.size
          have HBX := Lib.hid hbx; have HBAx := Lib.hid hba
          clear hbx hba
          go_wp2
          go_loopw [15, 16] (fun a i wr => ∃ (q m : Nat) (x : Snd), q ≤ 4 ∧ i = .int .i64 q ∧ a = .int .i64 ((kk : Int) + (m : Int)) ∧ n0 ≤ m ∧ m ≤ s.size - kk ∧ ok32 x ∧ (xf, mf) = marksR ms (4 - q) ((bs s).drop kk) x m ∧ Blk wr w3.heap.size 30 #[.int .u32 x.1, .int .u32 x.2] ∧ Below wo.heap.size wo wr) (fun _ i _ => 4 - (RowKit.intOf i).toNat)
          case atStart => exact ⟨0, n0, x0, by omega, rfl, by rw [← hsz0], Nat.le_refl _, hsl, HSOK.out, HMR.out.symm, HBX.out, HBAx.out⟩
          case round =>
            obtain ⟨q, m, x, hq4, rfl, rfl, hnm, hm, hxok, hmr, hbx, hbw⟩ := hrel
            have HMRr := Lib.hid hmr; have HBOX := Lib.hid hbx; have HBXw := Lib.hid hbw; have HXOK := Lib.hid hxok
            have hbxl := hbx.lt
            clear hmr hbx hbw hxok HBX HBAx HMR HSN
            have hgr := HG.out.below HBXw.out HG.out.lt
            have hrr := HROW.out.below HBXw.out
            have hcutI : (0 : Int) ≤ (kk : Int) + (m : Int) := by omega
            have hcutJ : (kk : Int) + (m : Int) ≤ (s.size : Int) := by omega
            have hcutK : (kk : Int) ≤ (kk : Int) + (m : Int) := by omega
            have hcutN : ((kk : Int) + (m : Int)).toNat = kk + m := by omega
            by_cases hq : q < 4
            · have hqI : (q : Int) < 4 := by omega
              have hcall := rmark_any (s.extract (kk + m) s.size) (HN.out.below (HB.out.trans (HBXw.out.mono HB.out.size)))
              rw [bs_drop] at hcall
              obtain ⟨mk, hmk⟩ : ∃ b, markAt ms ((bs s).drop (kk + m)) = b := ⟨_, rfl⟩
              rw [hmk] at hcall
              have HCALL := Lib.hid hcall; have HMKE := Lib.hid hmk
              clear hcall hmk
              go_wp2_with fail
              refine HCALL.out.mono ?_
              rintro e w4 ⟨⟨i, rfl, hmi⟩, hb4⟩
              have hbw4 := HBXw.out.trans (hb4.mono HBXw.out.size)
              have HBOX4 := Lib.hid (HBOX.out.below hb4 hbxl); have HBW4 := Lib.hid hbw4; have HG4 := Lib.hid (hgr.below hb4 hgr.lt)
              clear hb4 hbw4 HCALL hgr hrr
              rcases hmi with ⟨rfl, rfl⟩ | ⟨p, y, rfl, hpl, hpy, rfl⟩
              · have hfin : (xf, mf) = (x, m) := by
                  rw [HMRr.out, show 4 - q = (3 - q) + 1 by omega, marksR, List.drop_drop, HMKE.out]
                obtain ⟨hf1, hf2⟩ := Prod.mk.inj hfin
                obtain rfl : x = xf := hf1.symm
                obtain rfl : m = mf := hf2.symm
                clear HMRr HMKE HBXw HBOX HG4 hfin hf1 hf2
                obtain ⟨HBXw, HBOX⟩ : (Hid (Below wo.heap.size wo w4)) ∧ (Hid (Blk w4 w3.heap.size 30 #[.int .u32 x.1, .int .u32 x.2])) := ⟨HBW4, HBOX4⟩
                clear HBW4 HBOX4
                obtain ⟨x1, x2⟩ := x
                simp only [] at *
                have hal := HBXw.out.alloc HBXw.out.size (.cells #[.int .u32 x1, .int .u32 x2] 30)
                have hrn := reads_newk w4 30 [.int .u32 x1, .int .u32 x2] 2 1 rfl
                have d0 := HBOX.out.cell 0; have d1 := HBOX.out.cell 1
                simp only [List.getElem?_toArray, List.getElem?_cons_zero, List.getElem?_cons_succ] at d0 d1
                have HRN := Lib.hid hrn; have HO1a := Lib.hid (own_below HO1.out hal); have HO2a := Lib.hid (own_below HO2.out hal)
                have hsza : w.heap.size ≤ (w4.alloc (.cells #[.int .u32 x1, .int .u32 x2] 30)).heap.size := Nat.le_trans HB.out.size hal.size
                have hba := HB.out.trans (hal.mono HB.out.size)
                have HBA := Lib.hid hba; have HSZA := Lib.hid hsza
                clear hrn hal hsza hba
                go_upto_region 22 with (at_builtin; refine wpList_append_any _ rfl _ _ 27 rfl w.heap.size 30 i1 (.agg #[.int .u32 0, .int .u32 0]) 2 8 Tryz.underlying27 hi1 hx0 hx1 hx2 rfl (by decide) _ _ _ rfl HO1a.out _ _ _ _ [.int .u32 x1, .int .u32 x2] rfl HRN.out (by simp [Value.oneCell']) (by unfold maxLen; omega) (by omega) HSZA.out ?_; intro v1 w5 hown1 hgrow1 hgx1; clear hgx1)
                clear d0 d1
                have hb5 := HBA.out.grown hgrow1 HSZA.out (fun k hk => (HO1a.out.lt k hk).1)
                have ho25 := HO2a.out.kept hgrow1 (own_own_ne HO2a.out HO1a.out (by decide))
                have hal := (Below.refl w5.heap.size w5).alloc (Nat.le_refl _) (.cells #[.string (s.extract kk (kk + m))] 9)
                have hrn := reads_new w5 9 [.string (s.extract kk (kk + m))]
                have HRN2 := Lib.hid hrn; have HO1b := Lib.hid (own_below hown1 hal); have HO2b := Lib.hid (own_below ho25 hal)
                have hsza : w.heap.size ≤ (w5.alloc (.cells #[.string (s.extract kk (kk + m))] 9)).heap.size := Nat.le_trans hb5.size hal.size
                have HBB := Lib.hid (hb5.trans (hal.mono hb5.size)); have HSZB := Lib.hid hsza
                clear hrn hal hsza hb5 ho25 hown1 hgrow1
                go_wp2_with (at_builtin; refine wpList_append_any _ rfl _ _ 22 rfl w.heap.size 9 i2 (.string ByteArray.empty) 1 16 Tryz.underlying22 hi2 hy0 hy1 hy2 rfl (by decide) _ _ _ rfl HO2b.out _ _ _ _ [.string (s.extract kk (kk + m))] rfl HRN2.out (by simp [Value.oneCell']) (by have := HWT.out; unfold maxLen; omega) (by have := HWT.out; omega) HSZB.out ?_; intro v2 w6 hown2 hgrow2 hgx2; clear hgx2)
                have hb6 := HBB.out.grown hgrow2 HSZB.out (fun k hk => (HO2b.out.lt k hk).1)
                have ho16 := HO1b.out.kept hgrow2 (own_own_ne HO1b.out HO2b.out (by decide))
                go_roundw
                case rel =>
                  refine ⟨kk + m, ws ++ [(x1, x2)], ts ++ [((bs s).drop kk).take m], v1, v2, rfl, rfl, by go_num, HNEXT.out, ?_, ?_, hb6⟩
                  · rw [List.length_append, List.flatMap_append]
                    exact ho16
                  · rw [cut_eq] at hown2
                    rw [List.length_append, List.map_append]
                    exact hown2
                case measure => simp [RowKit.intOf]; omega
              · have hp0 : (0 : Int) ≤ (p : Int) := by omega
                have hpn : ¬ (p : Int) < 0 := by omega
                have hpI : (p : Int) < (ms.length : Int) := by omega
                have hr4 := HROW.out.below HBW4.out
                obtain ⟨ad, rfl, had, e0, e1, e2, e3⟩ := mark_cells hr4 hpl
                have hpe : ms[p] = y := by
                  have := List.getElem?_eq_getElem hpl
                  rw [this] at hpy
                  injection hpy
                rw [hpe] at e0 e1 e2 e3
                obtain ⟨hyc, hys, -⟩ := HMK.out y (hpe ▸ List.getElem_mem hpl)
                obtain ⟨-, hy2⟩ := markAt_mem HMKE.out
                have hnx : (xf, mf) = marksR ms (4 - (q + 1)) ((bs s).drop kk) (chgS x y.clear y.set) (m + y.text.size) := by
                  rw [HMRr.out, show 4 - q = (3 - q) + 1 by omega, marksR, List.drop_drop, HMKE.out, show 4 - (q + 1) = 3 - q by omega]
                have hcok : ok32 (chgS x y.clear y.set) := chg_ok HXOK.out hys
                have hty : m + y.text.size ≤ s.size - kk := by
                  rw [List.length_drop, size_bs] at hy2; omega
                have hch := fun W => rchange_any x y.set y.clear W HXOK.out hys hyc
                have hkeep : ∀ W, Below wo.heap.size wo W → W.cell? ⟨g, 2, none⟩ = some (.slice (some ad) ms.length c) ∧ W.cell? (ad.add (p * 4)) = some (.string y.text) ∧ W.cell? ⟨(ad.add (p * 4)).block, (ad.add (p * 4)).off + 1, none⟩ = some (.int .u32 y.clear) ∧ W.cell? ⟨(ad.add (p * 4)).block, (ad.add (p * 4)).off + 2, none⟩ = some (.int .u32 y.set.1) ∧ W.cell? ⟨(ad.add (p * 4)).block, (ad.add (p * 4)).off + 3, none⟩ = some (.int .u32 y.set.2) := fun W hW => by
                  obtain ⟨ad2, e, -, f0, f1, f2, f3⟩ := mark_cells (HROW.out.below hW) hpl
                  obtain rfl := Option.some.inj e
                  rw [hpe] at f0 f1 f2 f3
                  exact ⟨(HG.out.below hW HG.out.lt).cell 2, f0, f1, f2, f3⟩
                have HKEEP := Lib.hid hkeep
                clear hkeep
                generalize chgS x y.clear y.set = cx at *
                have g2 := HG4.out.cell 2
                have d0 := HBOX4.out.cell 0; have d1 := HBOX4.out.cell 1
                simp only [List.getElem?_toArray, List.getElem?_cons_zero, List.getElem?_cons_succ] at g2 d0 d1
                have HCH := Lib.hid hch; have HNX := Lib.hid hnx; have HCOK := Lib.hid hcok
                clear hch hnx hcok hyc hys hy2 HMRr HMKE hpe hpy
                obtain ⟨yt, yc, ys1, ys2⟩ := y
                simp only [] at *
                obtain ⟨x1, x2⟩ := x
                obtain ⟨cx1, cx2⟩ := cx
                simp only [] at *
                have HWD := Lib.hid HBW4.out.drew
                have HBD := Lib.hid HBOX4.out.drew
                go_upto_region 19 with fail
                refine wp_region_held_drew (S := (fun W => W.cell? ⟨g, 2, none⟩ = some (.slice (some ad) ms.length c) ∧ W.cell? (ad.add (p * 4)) = some (.string yt) ∧ W.cell? ⟨(ad.add (p * 4)).block, (ad.add (p * 4)).off + 1, none⟩ = some (.int .u32 yc) ∧ W.cell? ⟨(ad.add (p * 4)).block, (ad.add (p * 4)).off + 2, none⟩ = some (.int .u32 ys1) ∧ W.cell? ⟨(ad.add (p * 4)).block, (ad.add (p * 4)).off + 3, none⟩ = some (.int .u32 ys2))) (by kernel_rfl) ?_ (fun hHeld => ?_)
                · (try dsimp only)
                  first | exact HKEEP.out _ HWD.out | exact HKEEP.out _ HBW5.out | exact HKEEP.out _ HB6.out
                have d0' : w4.drew.cell? ⟨w3.heap.size, 0, none⟩ = some (.int .u32 x1) := d0
                have d1' : w4.drew.cell? ⟨w3.heap.size, 1, none⟩ = some (.int .u32 x2) := d1
                clear d0 d1 e0 e1 e2 e3 g2
                obtain ⟨wd, hwd⟩ : ∃ W, w4.drew = W := ⟨_, rfl⟩
                rw [hwd] at HWD HBD hHeld d0' d1' ⊢
                clear hwd
                refine wpAnyH_take (i := 1) (v := ?_) rfl (by kernel_rfl) (by kernel_rfl) (by kernel_rfl) (fun _ _ _ h => h) (Or.inl ⟨by rfl, ?_⟩) (by assumption) ?_
                rotate_left
                · intro w hSw
                  (try dsimp only at hSw)
                  go_simp <;> with_reducible rfl
                try simp only [Act.put, List.getElem_toArray, List.getElem_cons_succ, List.getElem_cons_zero, List.setIfInBounds_toArray, List.set_cons_zero, List.set_cons_succ]
                refine wpAnyH_take (i := 2) (v := ?_) rfl (by kernel_rfl) (by kernel_rfl) (by kernel_rfl) (fun _ _ _ h => h) (Or.inl ⟨by rfl, ?_⟩) (by assumption) ?_
                rotate_left
                · intro w hSw
                  (try dsimp only at hSw)
                  go_simp <;> with_reducible rfl
                try simp only [Act.put, List.getElem_toArray, List.getElem_cons_succ, List.getElem_cons_zero, List.setIfInBounds_toArray, List.set_cons_zero, List.set_cons_succ]
                refine wpAnyH_take (i := 3) (v := ?_) rfl (by kernel_rfl) (by kernel_rfl) (by kernel_rfl) (fun _ _ _ h => h) (Or.inl ⟨by rfl, ?_⟩) (by assumption) ?_
                rotate_left
                · intro w hSw
                  (try dsimp only at hSw)
                  go_simp <;> with_reducible rfl
                try simp only [Act.put, List.getElem_toArray, List.getElem_cons_succ, List.getElem_cons_zero, List.setIfInBounds_toArray, List.set_cons_zero, List.set_cons_succ]
                refine wpAnyH_take (i := 4) (v := ?_) rfl (by kernel_rfl) (by kernel_rfl) (by kernel_rfl) (fun _ _ _ h => h) (Or.inl ⟨by rfl, ?_⟩) (by assumption) ?_
                rotate_left
                · intro w hSw
                  (try dsimp only at hSw)
                  go_simp <;> with_reducible rfl
                try simp only [Act.put, List.getElem_toArray, List.getElem_cons_succ, List.getElem_cons_zero, List.setIfInBounds_toArray, List.set_cons_zero, List.set_cons_succ]
                refine wpAnyH_take (i := 5) (v := ?_) rfl (by kernel_rfl) (by kernel_rfl) (by kernel_rfl) (fun _ _ _ h => h) (Or.inl ⟨by rfl, ?_⟩) (by assumption) ?_
                rotate_left
                · intro w hSw
                  (try dsimp only at hSw)
                  go_simp <;> with_reducible rfl
                try simp only [Act.put, List.getElem_toArray, List.getElem_cons_succ, List.getElem_cons_zero, List.setIfInBounds_toArray, List.set_cons_zero, List.set_cons_succ]
                refine wpAnyH_take (i := 6) (v := ?_) rfl (by kernel_rfl) (by kernel_rfl) (by kernel_rfl) (fun _ _ _ h => h) (Or.inl ⟨by rfl, ?_⟩) (by assumption) ?_
                rotate_left
                · intro w hSw
                  (try dsimp only at hSw)
                  go_simp <;> with_reducible rfl
                try simp only [Act.put, List.getElem_toArray, List.getElem_cons_succ, List.getElem_cons_zero, List.setIfInBounds_toArray, List.set_cons_zero, List.set_cons_succ]
                refine wpAnyH_take (i := 7) (v := ?_) rfl (by kernel_rfl) (by kernel_rfl) (by kernel_rfl) (fun _ _ _ h => h) (Or.inl ⟨by rfl, ?_⟩) (by assumption) ?_
                rotate_left
                · intro w hSw
                  (try dsimp only at hSw)
                  go_simp <;> with_reducible rfl
                try simp only [Act.put, List.getElem_toArray, List.getElem_cons_succ, List.getElem_cons_zero, List.setIfInBounds_toArray, List.set_cons_zero, List.set_cons_succ]
                refine wpAnyH_take (i := 8) (v := ?_) rfl (by kernel_rfl) (by kernel_rfl) (by kernel_rfl) (fun _ _ _ h => h) (Or.inl ⟨by rfl, ?_⟩) (by assumption) ?_
                rotate_left
                · intro w hSw
                  (try dsimp only at hSw)
                  go_simp <;> with_reducible rfl
                try simp only [Act.put, List.getElem_toArray, List.getElem_cons_succ, List.getElem_cons_zero, List.setIfInBounds_toArray, List.set_cons_zero, List.set_cons_succ]
                refine wpAnyH_take (i := 9) (v := ?_) rfl (by kernel_rfl) (by kernel_rfl) (by kernel_rfl) (fun _ _ _ h => h) (Or.inl ⟨by rfl, ?_⟩) (by assumption) ?_
                rotate_left
                · intro w hSw
                  (try dsimp only at hSw)
                  go_simp <;> with_reducible rfl
                try simp only [Act.put, List.getElem_toArray, List.getElem_cons_succ, List.getElem_cons_zero, List.setIfInBounds_toArray, List.set_cons_zero, List.set_cons_succ]
                refine wpAnyH_take (i := 10) (v := ?_) rfl (by kernel_rfl) (by kernel_rfl) (by kernel_rfl) (fun _ _ _ h => h) (Or.inl ⟨by rfl, ?_⟩) (by assumption) ?_
                rotate_left
                · intro w hSw
                  (try dsimp only at hSw)
                  go_simp <;> with_reducible rfl
                try simp only [Act.put, List.getElem_toArray, List.getElem_cons_succ, List.getElem_cons_zero, List.setIfInBounds_toArray, List.set_cons_zero, List.set_cons_succ]
                refine wpAnyH_take (i := 11) (v := ?_) rfl (by kernel_rfl) (by kernel_rfl) (by kernel_rfl) (fun _ _ _ h => h) (Or.inl ⟨by rfl, ?_⟩) (by assumption) ?_
                rotate_left
                · intro w hSw
                  (try dsimp only at hSw)
                  go_simp <;> with_reducible rfl
                try simp only [Act.put, List.getElem_toArray, List.getElem_cons_succ, List.getElem_cons_zero, List.setIfInBounds_toArray, List.set_cons_zero, List.set_cons_succ]
                refine wpAnyH_take (i := 12) (v := ?_) rfl (by kernel_rfl) (by kernel_rfl) (by kernel_rfl) (fun _ _ _ h => h) (Or.inl ⟨by rfl, ?_⟩) (by assumption) ?_
                rotate_left
                · intro w hSw
                  (try dsimp only at hSw)
                  go_simp <;> with_reducible rfl
                try simp only [Act.put, List.getElem_toArray, List.getElem_cons_succ, List.getElem_cons_zero, List.setIfInBounds_toArray, List.set_cons_zero, List.set_cons_succ]
                refine wpAnyH_take (i := 13) (v := ?_) rfl (by kernel_rfl) (by kernel_rfl) (by kernel_rfl) (fun _ _ _ h => h) (Or.inl ⟨by rfl, ?_⟩) (by assumption) ?_
                rotate_left
                · intro w hSw
                  (try dsimp only at hSw)
                  go_simp <;> with_reducible rfl
                try simp only [Act.put, List.getElem_toArray, List.getElem_cons_succ, List.getElem_cons_zero, List.setIfInBounds_toArray, List.set_cons_zero, List.set_cons_succ]
                refine wpAnyH_take (i := 14) (v := ?_) rfl (by kernel_rfl) (by kernel_rfl) (by kernel_rfl) (fun _ _ _ h => h) (Or.inl ⟨by rfl, ?_⟩) (by assumption) ?_
                rotate_left
                · intro w hSw
                  (try dsimp only at hSw)
                  go_simp <;> with_reducible rfl
                try simp only [Act.put, List.getElem_toArray, List.getElem_cons_succ, List.getElem_cons_zero, List.setIfInBounds_toArray, List.set_cons_zero, List.set_cons_succ]
                refine wpAnyH_take (i := 15) (v := ?_) rfl (by kernel_rfl) (by kernel_rfl) (by kernel_rfl) (fun _ _ _ h => h) (Or.inl ⟨by rfl, ?_⟩) (by assumption) ?_
                rotate_left
                · intro w hSw
                  (try dsimp only at hSw)
                  go_simp <;> with_reducible rfl
                try simp only [Act.put, List.getElem_toArray, List.getElem_cons_succ, List.getElem_cons_zero, List.setIfInBounds_toArray, List.set_cons_zero, List.set_cons_succ]
                refine wpAnyH_take (i := 16) (v := ?_) rfl (by kernel_rfl) (by kernel_rfl) (by kernel_rfl) (fun _ _ _ h => h) (Or.inl ⟨by rfl, ?_⟩) (by assumption) ?_
                rotate_left
                · intro w hSw
                  (try dsimp only at hSw)
                  go_simp <;> with_reducible rfl
                try simp only [Act.put, List.getElem_toArray, List.getElem_cons_succ, List.getElem_cons_zero, List.setIfInBounds_toArray, List.set_cons_zero, List.set_cons_succ]
                refine wpAnyH_ready (rs := [0]) (by kernel_rfl) (by simp) ?_
                refine AllReadyH.cons rfl (fun K hK => ?_) AllReadyH.nil
                go_simp
                refine hK.out _ _ ?_ (fun hHeld' => ?_)
                · (try dsimp only)
                  first | exact HKEEP.out _ HWD.out | exact HKEEP.out _ HBW5.out | exact HKEEP.out _ HB6.out
                clear hK K hHeld
                have hHeld := hHeld'
                clear hHeld'
                refine wpAnyH_ready (rs := [17]) (by kernel_rfl) (by simp) ?_
                refine AllReadyH.cons rfl (fun K hK => ?_) AllReadyH.nil
                go_simp
                (try go_wp2_with fail)
                refine (HCH.out _).mono ?_
                rintro e w5 ⟨⟨z, rfl⟩, hb5⟩
                have hq5 := HBD.out.below hb5 HBD.out.lt
                have hbw5 := HWD.out.trans (hb5.mono HWD.out.size)
                have u0 := hq5.cell 0
                have u1 := hq5.cell 1
                have fu0 := hq5.frozen 0
                have fu1 := hq5.frozen 1
                simp only [List.getElem?_toArray, List.getElem?_cons_zero, List.getElem?_cons_succ] at u0 u1
                have HQ5 := Lib.hid hq5
                have HBW5 := Lib.hid hbw5
                have hb6 := (hbw5.setCell (p := ⟨w3.heap.size, 0, none⟩) hbxo (.int .u32 cx1)).setCell (p := ⟨w3.heap.size, 1, none⟩) hbxo (.int .u32 cx2)
                have HB6 := Lib.hid hb6
                have HQ6 := Lib.hid ((hq5.set_ 0 (.int .u32 cx1)).set_ 1 (.int .u32 cx2))
                clear hb5 hq5 hbw5 hb6 d0' d1'
                (try go_simp)
                refine hK.out _ _ ?_ (fun hHeld' => ?_)
                · (try dsimp only)
                  first | exact HKEEP.out _ HWD.out | exact HKEEP.out _ HBW5.out | exact HKEEP.out _ HB6.out
                clear hK K hHeld
                have hHeld := hHeld'
                clear hHeld'
                refine wpAnyH_take (i := 18) (v := ?_) rfl (by kernel_rfl) (by kernel_rfl) (by kernel_rfl) (fun _ _ _ h => h) (Or.inl ⟨by rfl, ?_⟩) (by assumption) ?_
                rotate_left
                · intro w hSw
                  (try dsimp only at hSw)
                  go_simp <;> with_reducible rfl
                try simp only [Act.put, List.getElem_toArray, List.getElem_cons_succ, List.getElem_cons_zero, List.setIfInBounds_toArray, List.set_cons_zero, List.set_cons_succ]
                refine wpAnyH_take (i := 19) (v := ?_) rfl (by kernel_rfl) (by kernel_rfl) (by kernel_rfl) (fun _ _ _ h => h) (Or.inl ⟨by rfl, ?_⟩) (by assumption) ?_
                rotate_left
                · intro w hSw
                  (try dsimp only at hSw)
                  go_simp <;> with_reducible rfl
                try simp only [Act.put, List.getElem_toArray, List.getElem_cons_succ, List.getElem_cons_zero, List.setIfInBounds_toArray, List.set_cons_zero, List.set_cons_succ]
                refine wpAnyH_take (i := 20) (v := ?_) rfl (by kernel_rfl) (by kernel_rfl) (by kernel_rfl) (fun _ _ _ h => h) (Or.inl ⟨by rfl, ?_⟩) (by assumption) ?_
                rotate_left
                · intro w hSw
                  (try dsimp only at hSw)
                  go_simp <;> with_reducible rfl
                try simp only [Act.put, List.getElem_toArray, List.getElem_cons_succ, List.getElem_cons_zero, List.setIfInBounds_toArray, List.set_cons_zero, List.set_cons_succ]
                refine wpAnyH_ready (rs := [21]) (by kernel_rfl) (by simp) ?_
                refine AllReadyH.cons rfl (fun K hK => ?_) AllReadyH.nil
                go_simp
                refine hK.out _ _ ?_ (fun hHeld' => ?_)
                · (try dsimp only)
                  first | exact HKEEP.out _ HWD.out | exact HKEEP.out _ HBW5.out | exact HKEEP.out _ HB6.out
                clear hK K hHeld
                have hHeld := hHeld'
                clear hHeld'
                refine wpAnyH_done (by kernel_rfl) ?_ _
                clear hHeld u0 u1 fu0 fu1
                obtain ⟨w6, hw6⟩ : ∃ W, (w5.setCell ⟨w3.heap.size, 0, none⟩ (.int .u32 cx1)).setCell ⟨w3.heap.size, 1, none⟩ (.int .u32 cx2) = W := ⟨_, rfl⟩
                rw [hw6] at HB6 HQ6 ⊢
                clear hw6
                obtain ⟨g2, e0, -, -, -⟩ := HKEEP.out _ HB6.out
                go_wp2
                go_roundw
                case rel => exact ⟨q + 1, m + yt.size, (cx1, cx2), by omega, by go_num, by go_num, by omega, hty, HCOK.out, HNX.out, HQ6.out, HB6.out⟩
                case measure => simp [RowKit.intOf]; omega
            · obtain rfl : q = 4 := by omega
              have hfin : (xf, mf) = (x, m) := HMRr.out
              obtain ⟨hf1, hf2⟩ := Prod.mk.inj hfin
              obtain rfl : x = xf := hf1.symm
              obtain rfl : m = mf := hf2.symm
              clear HMRr hgr hrr hfin hf1 hf2
              obtain ⟨x1, x2⟩ := x
              simp only [] at *
              have hal := HBXw.out.alloc HBXw.out.size (.cells #[.int .u32 x1, .int .u32 x2] 30)
              have hrn := reads_newk wr 30 [.int .u32 x1, .int .u32 x2] 2 1 rfl
              have d0 := HBOX.out.cell 0; have d1 := HBOX.out.cell 1
              simp only [List.getElem?_toArray, List.getElem?_cons_zero, List.getElem?_cons_succ] at d0 d1
              have HRN := Lib.hid hrn; have HO1a := Lib.hid (own_below HO1.out hal); have HO2a := Lib.hid (own_below HO2.out hal)
              have hsza : w.heap.size ≤ (wr.alloc (.cells #[.int .u32 x1, .int .u32 x2] 30)).heap.size := Nat.le_trans HB.out.size hal.size
              have hba := HB.out.trans (hal.mono HB.out.size)
              have HBA := Lib.hid hba; have HSZA := Lib.hid hsza
              clear hrn hal hsza hba
              go_upto_region 22 with (at_builtin; refine wpList_append_any _ rfl _ _ 27 rfl w.heap.size 30 i1 (.agg #[.int .u32 0, .int .u32 0]) 2 8 Tryz.underlying27 hi1 hx0 hx1 hx2 rfl (by decide) _ _ _ rfl HO1a.out _ _ _ _ [.int .u32 x1, .int .u32 x2] rfl HRN.out (by simp [Value.oneCell']) (by unfold maxLen; omega) (by omega) HSZA.out ?_; intro v1 w5 hown1 hgrow1 hgx1; clear hgx1)
              clear d0 d1
              have hb5 := HBA.out.grown hgrow1 HSZA.out (fun k hk => (HO1a.out.lt k hk).1)
              have ho25 := HO2a.out.kept hgrow1 (own_own_ne HO2a.out HO1a.out (by decide))
              have hal := (Below.refl w5.heap.size w5).alloc (Nat.le_refl _) (.cells #[.string (s.extract kk (kk + m))] 9)
              have hrn := reads_new w5 9 [.string (s.extract kk (kk + m))]
              have HRN2 := Lib.hid hrn; have HO1b := Lib.hid (own_below hown1 hal); have HO2b := Lib.hid (own_below ho25 hal)
              have hsza : w.heap.size ≤ (w5.alloc (.cells #[.string (s.extract kk (kk + m))] 9)).heap.size := Nat.le_trans hb5.size hal.size
              have HBB := Lib.hid (hb5.trans (hal.mono hb5.size)); have HSZB := Lib.hid hsza
              clear hrn hal hsza hb5 ho25 hown1 hgrow1
              go_wp2_with (at_builtin; refine wpList_append_any _ rfl _ _ 22 rfl w.heap.size 9 i2 (.string ByteArray.empty) 1 16 Tryz.underlying22 hi2 hy0 hy1 hy2 rfl (by decide) _ _ _ rfl HO2b.out _ _ _ _ [.string (s.extract kk (kk + m))] rfl HRN2.out (by simp [Value.oneCell']) (by have := HWT.out; unfold maxLen; omega) (by have := HWT.out; omega) HSZB.out ?_; intro v2 w6 hown2 hgrow2 hgx2; clear hgx2)
              have hb6 := HBB.out.grown hgrow2 HSZB.out (fun k hk => (HO2b.out.lt k hk).1)
              have ho16 := HO1b.out.kept hgrow2 (own_own_ne HO1b.out HO2b.out (by decide))
              go_roundw
              case rel =>
                refine ⟨kk + m, ws ++ [(x1, x2)], ts ++ [((bs s).drop kk).take m], v1, v2, rfl, rfl, by go_num, HNEXT.out, ?_, ?_, hb6⟩
                · rw [List.length_append, List.flatMap_append]
                  exact ho16
                · rw [cut_eq] at hown2
                  rw [List.length_append, List.map_append]
                  exact hown2
              case measure => simp [RowKit.intOf]; omega
    · have hjI : ¬ (j : Int) < (s.size : Int) := by omega
      have hE := HRD.out.at_end (by rw [size_bs]; exact hlt)
      have hfin : ReadPost w (readR L ms (bs s)) (.returned (.tuple #[.slice A1 ws.length c1, .slice A2 ts.length c2, .int .i64 0, .int .i64 0])) wo := by
        rw [hE]
        exact ⟨_, _, rfl, HO1.out, HO2.out, HB.out⟩
      have HFIN := Lib.hid hfin
      clear hfin hE HRD HO1 HO2 HB
      go_wp2
      (try simp only [Exit.inBlock, Exit.then])
      refine bodyPost_ret (results_tmp4 rfl _ _ _) rfl ?_
      exact HFIN.out
end Go.Proofs.YtohggdfplmlinaaGreatDoor

