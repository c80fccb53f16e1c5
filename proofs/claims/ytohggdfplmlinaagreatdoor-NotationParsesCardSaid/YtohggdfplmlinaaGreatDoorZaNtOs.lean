/-
  layer 4 at the second seat: the reference's Sound. Conditions: a notation in memory.
-/
import Derived.Test.YtohggdfplmlinaaGreatDoorZaNtOr
import Derived.Test.YtohggdfplmlinaaGreatDoorZaaq
import Derived.Test.YtohggdfplmlinaaGreatDoorZaaj
namespace Go.Proofs.YtohggdfplmlinaaGreatDoor
open Go.RowKit Go.Lib

/-- No mark, or one: the texts of them. -/
def optT (ms : List Mk) : List (List UInt8) := [] :: ms.map fun y => bs y.text
section
variable {L : List Nam} {ms : List Mk}
theorem optT_len : (optT ms).length = ms.length + 1 := by unfold optT; simp
theorem optT_zero (h : 0 < (optT ms).length) : (optT ms)[0] = [] := rfl
theorem optT_succ {p : Nat} (h : p < ms.length) (h' : p + 1 < (optT ms).length) : (optT ms)[p + 1] = bs ms[p].text := by simp only [optT, List.getElem_cons_succ, List.getElem_map]
theorem optT_le (h : ∀ m ∈ ms, m.text.size ≤ 3) : ∀ t ∈ optT ms, t.length ≤ 3 := fun t ht => by
  rcases List.mem_cons.1 ht with rfl | ht
  · exact Nat.zero_le _
  · obtain ⟨y, hy, rfl⟩ := List.mem_map.1 ht
    rw [size_bs]
    exact h y hy
theorem rcands1_opt {sym : List UInt8} : rcands1 ms sym = (optT ms).flatMap fun p => (optT ms).map fun q => sym ++ p ++ q := by
  unfold rcands1 optT
  rw [List.flatMap_cons]
  simp [List.map_map, List.flatMap_map, Function.comp_def]
def rb2 (L : List Nam) (ms : List Mk) (s : Snd) (b t : List UInt8) (k : Nat) : List UInt8 := (((optT ms).take k).map fun q => t ++ q).foldl (tryS L ms s) b
def rb1 (L : List Nam) (ms : List Mk) (s : Snd) (b sym : List UInt8) (k : Nat) : List UInt8 := (((optT ms).take k).flatMap fun p => (optT ms).map fun q => sym ++ p ++ q).foldl (tryS L ms s) b
def rb0 (L : List Nam) (ms : List Mk) (s : Snd) (k : Nat) : List UInt8 := ((L.take k).flatMap fun x => rcands1 ms (bs x.1)).foldl (tryS L ms s) []
theorem rb2_next {s : Snd} {b t : List UInt8} {k : Nat} (hk : k < (optT ms).length) : rb2 L ms s b t (k + 1) = tryS L ms s (rb2 L ms s b t k) (t ++ (optT ms)[k]) := by
  unfold rb2
  rw [List.take_succ_eq_append_getElem hk, List.map_append, List.foldl_append]; rfl
theorem rb1_next {s : Snd} {b sym : List UInt8} {k : Nat} (hk : k < (optT ms).length) : rb1 L ms s b sym (k + 1) = rb2 L ms s (rb1 L ms s b sym k) (sym ++ (optT ms)[k]) (optT ms).length := by
  unfold rb1 rb2
  rw [List.take_succ_eq_append_getElem hk, List.flatMap_append, List.foldl_append, List.take_length]
  simp
theorem rb0_next {s : Snd} {k : Nat} (hk : k < L.length) : rb0 L ms s (k + 1) = rb1 L ms s (rb0 L ms s k) (bs L[k].1) (optT ms).length := by
  unfold rb0 rb1
  rw [List.take_succ_eq_append_getElem hk, List.flatMap_append, List.foldl_append, List.take_length]
  simp [rcands1_opt]
theorem rb0_all {s : Snd} : rb0 L ms s L.length = bestS L ms s := by
  unfold rb0
  rw [List.take_length]
  exact rbest
theorem rb2_all {s : Snd} {b t : List UInt8} {k : Nat} (hk : ¬ k < ms.length + 1) (hk2 : k ≤ ms.length + 1) : rb2 L ms s b t k = rb2 L ms s b t (optT ms).length := by
  rw [optT_len, show k = ms.length + 1 by omega]
end
theorem rnot_32 {w : World} {S : Nat → Prop} {g : Nat} {fs : List ByteArray} {L : List Nam} {ms : List Mk} (h : RNot w S g fs L ms) : ms.length ≤ 32 ∧ ∀ m ∈ ms, m.text.size ≤ 3 := by
  obtain ⟨_, _, _, -, -, -, -, hk⟩ := h
  exact ⟨notK_len hk, mark_size hk⟩
theorem aloneR_is {L : List Nam} {ms : List Mk} {x : Snd} {t : List UInt8} : aloneR (readR L ms t) x = isOne L ms x t := rfl
theorem asB_app (a b : ByteArray) : a ++ b = asB (bs a ++ bs b) := str_eq (by show bs (a ++ b) = bs a ++ bs b; exact bs_append a b)
set_option linter.unusedSimpArgs false in
set_option maxRecDepth 20000 in
set_option maxHeartbeats 8000000 in
theorem rsound_any {w : World} {S : Nat → Prop} {g : Nat} {fs : List ByteArray} {L : List Nam} {ms : List Mk} (x : Snd) (h : RNot w S g fs L ms) :
    Calls Tryz.prog 13 #[wptr g, sndV x] w fun e w' => e = .returned (.tuple #[.string (asB (bestS L ms x)), .bool (decide (bestS L ms x ≠ []))]) ∧ Below w.heap.size w w' := by
  obtain ⟨R, hR⟩ : ∃ R, bestS L ms x = R := ⟨_, rfl⟩
  obtain ⟨qq, hqq⟩ : ∃ q, decide (R ≠ []) = q := ⟨_, rfl⟩
  rw [hR, hqq]
  have HRE := Lib.hid hR; have HQQ := Lib.hid hqq
  clear hR hqq
  have hb0 := (Below.refl w.heap.size w).alloc (Nat.le_refl _) (.cells #[.int .u32 x.1, .int .u32 x.2] 30)
  have hk0 := Blk.new w 30 #[.int .u32 x.1, .int .u32 x.2]
  obtain ⟨W0, hW0⟩ : ∃ W, w.alloc (.cells #[.int .u32 x.1, .int .u32 x.2] 30) = W := ⟨_, rfl⟩
  rw [hW0] at hb0 hk0
  have hn0 := h.below hb0
  have hv := rnvalid_any hn0
  have h256 := (rnot_parts h).2.l256
  have hsym := (rnot_parts h).2.sym
  have h32 := rnot_32 h
  have HV := Lib.hid hv; have HN0 := Lib.hid hn0; have HB0 := Lib.hid hb0; have HK0 := Lib.hid hk0; have HW := Lib.hid hW0; have HSY := Lib.hid hsym
  clear h hv hn0 hb0 hk0 hW0 hsym
  obtain ⟨x1, x2⟩ := x
  go_enter Tryz.func13, Tryz.ntmps13
  go_wp2_with fail
  rw [HW.out]
  clear HW
  refine HV.out.mono ?_
  rintro e w1 ⟨rfl, rfl⟩
  clear HV
  obtain ⟨gi, A, c, ⟨hg, -⟩, hI, ⟨hrow, -⟩, -, -⟩ := HN0.out
  have g1 := hg.cell 1
  simp only [List.getElem?_toArray, List.getElem?_cons_zero, List.getElem?_cons_succ] at g1
  have hsn := rsounds_any hI
  have HSN := Lib.hid hsn; have HG := Lib.hid hg; have HROW := Lib.hid (Reads.of_own hrow)
  clear hsn hg hI hrow
  go_wp2_with fail
  refine HSN.out.mono ?_
  rintro e w1 ⟨v, rfl, ho, hb1⟩
  obtain ⟨A2, c2, rfl, -, -⟩ := ownsRow_form ho
  have HR := Lib.hid (Reads.of_own ho); have HB1 := Lib.hid (HB0.out.trans (hb1.mono HB0.out.size)); have HX1 := Lib.hid (HK0.out.below hb1 HK0.out.lt)
  have HG1 := Lib.hid (HG.out.below hb1 HG.out.lt); have HROW1 := Lib.hid (HROW.out.below hb1); have HN1 := Lib.hid (HN0.out.below hb1)
  have hW0s := hb1.size
  have hmr := HROW.out.below hb1
  clear ho hb1 HSN HG HROW HB0 HK0 HN0 g1 hmr
  have hz1 : w.heap.size < w1.heap.size := HX1.out.lt
  go_wp2
  go_loopw [6, 8] (fun b i wr => ∃ k : Nat, k ≤ L.length ∧ i = .int .i64 k ∧ b = .string (asB (rb0 L ms (x1, x2) k)) ∧ Below w1.heap.size w1 wr) (fun _ i _ => L.length - (RowKit.intOf i).toNat)
  case atStart => exact ⟨0, by omega, rfl, rfl, Below.refl _ _⟩
  case round =>
    obtain ⟨k, hk, rfl, rfl, hbw⟩ := hrel
    obtain ⟨wo, rfl⟩ : ∃ W, W = wr := ⟨_, rfl⟩
    have HBW := Lib.hid hbw
    clear hbw
    by_cases hlt : k < L.length
    · have hkI : (k : Int) < (L.length : Int) := by omega
      have hk0 : (0 : Int) ≤ (k : Int) := by omega
      have hnx0 := rb0_next (ms := ms) (s := (x1, x2)) hlt
      obtain ⟨sm, hsm⟩ : ∃ sm, L[k].1 = sm := ⟨_, rfl⟩
      have hsz : sm.size ≤ 4 := by rw [← hsm]; exact sym_size (HSY.out _ (List.getElem_mem hlt)).1
      rw [hsm] at hnx0
      have HNX0 := Lib.hid hnx0; have HSM := Lib.hid hsm
      clear hnx0 hsm
      generalize rb0 L ms (x1, x2) k = B0 at *
      go_wp2
      go_loopw [6, 9] (fun b i wr => ∃ (ka : Nat) (za : Int), ka ≤ ms.length + 1 ∧ za = (ka : Int) - 1 ∧ i = .int .i64 za ∧ b = .string (asB (rb1 L ms (x1, x2) B0 (bs sm) ka)) ∧ Below w1.heap.size w1 wr) (fun _ i _ => ms.length + 1 - (RowKit.intOf i + 1).toNat)
      case atStart => exact ⟨0, -1, by omega, rfl, rfl, rfl, HBW.out⟩
      case round =>
        obtain ⟨ka, za, hka, hza, rfl, rfl, hbw⟩ := hrel
        obtain ⟨wp, rfl⟩ : ∃ W, W = wr := ⟨_, rfl⟩
        have HBWa := Lib.hid hbw; have HZA := Lib.hid hza
        have hzl : -1 ≤ za := by omega
        clear hbw hza
        have hgp := HG1.out.below HBWa.out HG1.out.lt
        have g2 := hgp.cell 2
        simp only [List.getElem?_toArray, List.getElem?_cons_zero, List.getElem?_cons_succ] at g2
        by_cases hlta : ka < ms.length + 1
        · have haI : za < (ms.length : Int) := by have := HZA.out; omega
          have hka' : ka < (optT ms).length := by rw [optT_len]; exact hlta
          have hnx1 := rb1_next (L := L) (s := (x1, x2)) (b := B0) (sym := bs sm) hka'
          obtain ⟨pa, hpa⟩ : ∃ pa, (optT ms)[ka] = pa := ⟨_, rfl⟩
          rw [hpa] at hnx1
          generalize rb1 L ms (x1, x2) B0 (bs sm) ka = B1 at *
          have HNX1 := Lib.hid hnx1; have HPA := Lib.hid hpa
          clear hnx1 hpa
          go_wp2
          go_loopw [6, 10] (fun b i wr => ∃ (kb : Nat) (zb : Int), kb ≤ ms.length + 1 ∧ zb = (kb : Int) - 1 ∧ i = .int .i64 zb ∧ b = .string (asB (rb2 L ms (x1, x2) B1 (bs sm ++ pa) kb)) ∧ Below w1.heap.size w1 wr) (fun _ i _ => ms.length + 1 - (RowKit.intOf i + 1).toNat)
          case atStart => exact ⟨0, -1, by omega, rfl, rfl, rfl, HBWa.out⟩
          case round =>
            obtain ⟨kb, zb, hkb, hzb, rfl, rfl, hbw⟩ := hrel
            have HBWb := Lib.hid hbw; have HZB := Lib.hid hzb
            have hzl2 : -1 ≤ zb := by omega
            clear hzb
            have hgr := HG1.out.below hbw HG1.out.lt
            have hmr := HROW1.out.below (hbw.mono hW0s)
            clear hbw g2
            have g2 := hgr.cell 2
            simp only [List.getElem?_toArray, List.getElem?_cons_zero, List.getElem?_cons_succ] at g2
            by_cases hltb : kb < ms.length + 1
            · have hbI : zb < (ms.length : Int) := by have := HZB.out; omega
              have hkb' : kb < (optT ms).length := by rw [optT_len]; exact hltb
              have hnx2 := rb2_next (L := L) (s := (x1, x2)) (b := B1) (t := bs sm ++ pa) hkb'
              obtain ⟨pb, hpb⟩ : ∃ pb, (optT ms)[kb] = pb := ⟨_, rfl⟩
              rw [hpb] at hnx2
              obtain ⟨B2, hB2⟩ : ∃ B, rb2 L ms (x1, x2) B1 (bs sm ++ pa) kb = B := ⟨_, rfl⟩
              rw [hB2] at hnx2 ⊢
              have HNX2 := Lib.hid hnx2; have HPB := Lib.hid hpb; have HMR := Lib.hid hmr
              obtain ⟨ad, rfl, had, e0, -, -⟩ := nam_cells (HR.out.below HBWb.out) hlt
              rw [HSM.out] at e0
              obtain ⟨s1, hs1⟩ : ∃ s, asB (bs sm ++ pa) = s := ⟨_, rfl⟩
              have hs1z : s1.size ≤ 7 := by
                have h1 := optT_le h32.2 _ (HPA.out ▸ List.getElem_mem hka')
                rw [← hs1, ← size_bs, bs_asB (bs sm ++ pa), List.length_append, size_bs]
                omega
              have HS1 := Lib.hid hs1
              clear hnx2 hpb hB2 hmr hgr hs1
              go_upto_if 50 with fail
              go_cut [11] (fun v wx => v = .string s1 ∧ wr = wx)
              case first =>
                have hza := HZA.out
                cases ka with
                | zero =>
                  obtain rfl : za = -1 := by omega
                  have hp : pa = [] := HPA.out.symm.trans (optT_zero hka')
                  have HP := Lib.hid hp
                  clear hp hza HPA HZA
                  go_wp2
                  go_meet
                  exact ⟨by rw [← HS1.out, HP.out, List.append_nil]; rfl, rfl⟩
                | succ p =>
                  obtain rfl : za = (p : Int) := by omega
                  have hpl : p < ms.length := by omega
                  have hpI : (p : Int) < (ms.length : Int) := by omega
                  have hp0 : (0 : Int) ≤ (p : Int) := by omega
                  have hp : pa = bs ms[p].text := HPA.out.symm.trans (optT_succ hpl hka')
                  obtain ⟨ad', rfl, had', f0, -, -, -⟩ := mark_cells HMR.out hpl
                  have HP := Lib.hid hp
                  have hys := h32.2 _ (List.getElem_mem hpl)
                  clear hp hza HPA HZA
                  generalize ms[p] = y at *
                  have hcat : (sm ++ y.text).size ≤ 7 := by rw [ByteArray.size_append]; omega
                  go_wp2
                  go_meet
                  exact ⟨by rw [← HS1.out, HP.out, asB_app], rfl⟩
              case rest =>
              obtain ⟨rfl, rfl⟩ := hcut
              obtain ⟨T, hT⟩ : ∃ T, bs sm ++ pa ++ pb = T := ⟨_, rfl⟩
              have hTl : T.length ≤ 10 := by
                have h1 := optT_le h32.2 _ (HPA.out ▸ List.getElem_mem hka')
                have h2 := optT_le h32.2 _ (HPB.out ▸ List.getElem_mem hkb')
                rw [← hT, List.length_append, List.length_append, size_bs]
                omega
              obtain ⟨tt, htt⟩ : ∃ t, asB T = t := ⟨_, rfl⟩
              obtain ⟨bb, hbb⟩ : ∃ b, asB B2 = b := ⟨_, rfl⟩
              rw [hbb]
              have hnx2 := HNX2.out
              rw [hT] at hnx2
              have HNX2 := Lib.hid hnx2; have HT := Lib.hid hT; have HTT := Lib.hid htt; have HBB := Lib.hid hbb
              clear e0 hnx2 hT htt hbb
              go_upto_if 62 with fail
              go_cut [11] (fun v wx => v = .string tt ∧ wr = wx)
              case first =>
                have hzb := HZB.out
                cases kb with
                | zero =>
                  obtain rfl : zb = -1 := by omega
                  have hp : pb = [] := HPB.out.symm.trans (optT_zero hkb')
                  have HP := Lib.hid hp
                  clear hp hzb HPB HZB
                  go_wp2
                  go_meet
                  exact ⟨by rw [← HTT.out, ← HT.out, HP.out, List.append_nil, HS1.out], rfl⟩
                | succ p =>
                  obtain rfl : zb = (p : Int) := by omega
                  have hpl : p < ms.length := by omega
                  have hpI : (p : Int) < (ms.length : Int) := by omega
                  have hp0 : (0 : Int) ≤ (p : Int) := by omega
                  have hp : pb = bs ms[p].text := HPB.out.symm.trans (optT_succ hpl hkb')
                  obtain ⟨ad', rfl, had', f0, -, -, -⟩ := mark_cells HMR.out hpl
                  have HP := Lib.hid hp
                  have hys := h32.2 _ (List.getElem_mem hpl)
                  clear hp hzb HPB HZB
                  generalize ms[p] = y at *
                  have hcat : (s1 ++ y.text).size ≤ 10 := by rw [ByteArray.size_append]; omega
                  go_wp2
                  go_meet
                  exact ⟨by rw [← HTT.out, ← HT.out, HP.out, asB_app, ← HS1.out]; rfl, rfl⟩
              case rest =>
              obtain ⟨rfl, rfl⟩ := hcut
              have hal := ralone_any (w := wr) (g := g) tt (x1, x2) (R := readR L ms T) (fun W hW => by
                have hn := HN1.out.below (HBWb.out.trans (hW.mono HBWb.out.size))
                have hr := rread_any tt hn (by rw [← HTT.out, ← size_bs, bs_asB T]; unfold maxLen; omega)
                rw [← HTT.out, bs_asB T] at hr
                rw [← HTT.out]
                exact rparse_any _ hn hr)
              rw [aloneR_is] at hal
              have hnx2 := HNX2.out
              unfold tryS at hnx2
              obtain ⟨al, hal'⟩ : ∃ a, isOne L ms (x1, x2) T = a := ⟨_, rfl⟩
              rw [hal'] at hal hnx2
              obtain ⟨bt, hbt⟩ : ∃ b, (better B2 T && al) = b := ⟨_, rfl⟩
              rw [hbt] at hnx2
              have hx := HX1.out.below HBWb.out hz1
              have c0 := hx.cell 0; have c1 := hx.cell 1
              simp only [List.getElem?_toArray, List.getElem?_cons_zero, List.getElem?_cons_succ] at c0 c1
              have HAL := Lib.hid hal; have HNX2 := Lib.hid hnx2; have HBT := Lib.hid hbt
              clear hal hnx2 hbt hal' hx
              go_upto_region 19 with fail
              go_cut [99] (fun v wx => v = .bool bt ∧ Below w1.heap.size w1 wx)
              case first =>
                go_wp2_with fail
                refine HAL.out.mono ?_
                rintro e w2 ⟨rfl, hb2⟩
                have HB2 := Lib.hid (HBWb.out.trans (hb2.mono HBWb.out.size))
                clear hb2 c0 c1 HAL
                cases al with
                | false =>
                  obtain rfl : bt = false := by rw [← HBT.out, Bool.and_false]
                  clear HBT
                  go_wp2
                  go_meet
                  exact ⟨rfl, HB2.out⟩
                | true =>
                  have hbt := HBT.out
                  rw [Bool.and_true] at hbt
                  unfold better at hbt
                  have hq := beq_nil bb
                  rw [← HBB.out, bs_asB B2, HBB.out] at hq
                  have hless := bytesLess_lt tt.toList bb.toList
                  have hl1 : tt.toList = T := by rw [← HTT.out, ByteArray.toList_eq]
                  have hl2 : bb.toList = B2 := by rw [← HBB.out, ByteArray.toList_eq]
                  rw [hl1, hl2] at hless
                  have hz1 : tt.size = T.length := by rw [← HTT.out, ← size_bs, bs_asB T]
                  have hz2 : bb.size = B2.length := by rw [← HBB.out, ← size_bs, bs_asB B2]
                  rw [← hz1, ← hz2] at hbt
                  rw [← hl1, ← hl2] at hless
                  have HL1 := Lib.hid hl1; have HL2 := Lib.hid hl2
                  clear hz1 hz2 hl1 hl2 HBT
                  by_cases hB : B2 = []
                  · rw [decide_eq_true hB] at hbt hq
                    obtain rfl : bt = true := by rw [← hbt, Bool.true_or, Bool.true_or]
                    clear hbt hB hless
                    go_wp2
                    go_meet
                    exact ⟨rfl, HB2.out⟩
                  · rw [decide_eq_false hB] at hbt hq
                    clear hB
                    rcases Nat.lt_trichotomy tt.size bb.size with hlt2 | heq | hgt
                    · rw [decide_eq_true hlt2] at hbt
                      obtain rfl : bt = true := by rw [← hbt]; rfl
                      have hI : (tt.size : Int) < (bb.size : Int) := by omega
                      clear hbt hless hlt2
                      go_wp2
                      go_meet
                      exact ⟨rfl, HB2.out⟩
                    · rw [decide_eq_false (show ¬ tt.size < bb.size by omega), decide_eq_true heq, Bool.false_or, Bool.false_or, Bool.true_and, ← HL1.out, ← HL2.out, ← hless] at hbt
                      have hI : ¬ (tt.size : Int) < (bb.size : Int) := by omega
                      have hE : ((tt.size : Int) == (bb.size : Int)) = true := by rw [beq_iff_eq]; omega
                      clear hless heq
                      go_wp2
                      go_meet
                      exact ⟨by rw [decide_eq_false (show ¬ tt.size < bb.size by omega), Bool.false_or], HB2.out⟩
                    · rw [decide_eq_false (show ¬ tt.size < bb.size by omega), decide_eq_false (show ¬ tt.size = bb.size by omega)] at hbt
                      obtain rfl : bt = false := by rw [← hbt]; rfl
                      have hI : ¬ (tt.size : Int) < (bb.size : Int) := by omega
                      have hE : ((tt.size : Int) == (bb.size : Int)) = false := by rw [beq_eq_false_iff_ne]; omega
                      clear hbt hless hgt
                      go_wp2
                      go_meet
                      exact ⟨by rw [decide_eq_false (show ¬ tt.size < bb.size by omega)], HB2.out⟩
              case rest =>
              obtain ⟨rfl, hb2⟩ := hcut
              have HB2 := Lib.hid hb2
              clear hb2 c0 c1 HAL HBT
              have hnx2 := HNX2.out
              cases bt with
              | true =>
                rw [if_pos rfl] at hnx2
                have HNX2 := Lib.hid hnx2
                clear hnx2
                go_wp2
                go_roundw
                case rel => exact ⟨kb + 1, zb + 1, by omega, by have := HZB.out; omega, by go_num, by rw [HNX2.out, HTT.out], HB2.out⟩
                case measure => have := HZB.out; simp [RowKit.intOf]; omega
              | false =>
                rw [if_neg (by decide)] at hnx2
                have HNX2 := Lib.hid hnx2
                clear hnx2
                go_wp2
                go_roundw
                case rel => exact ⟨kb + 1, zb + 1, by omega, by have := HZB.out; omega, by go_num, by rw [HNX2.out, HBB.out], HB2.out⟩
                case measure => have := HZB.out; simp [RowKit.intOf]; omega
            · obtain rfl : kb = ms.length + 1 := by omega
              have hbI : ¬ zb < (ms.length : Int) := by have := HZB.out; omega
              rw [show ms.length + 1 = (optT ms).length from optT_len.symm, ← HNX1.out]
              go_wp2
              go_roundw
              case rel => exact ⟨ka + 1, za + 1, by omega, by have := HZA.out; omega, by go_num, rfl, HBWb.out⟩
              case measure => have := HZA.out; simp [RowKit.intOf]; omega
        · obtain rfl : ka = ms.length + 1 := by omega
          have haI : ¬ za < (ms.length : Int) := by have := HZA.out; omega
          rw [show ms.length + 1 = (optT ms).length from optT_len.symm, ← HNX0.out]
          go_wp2
          go_roundw
          case rel => exact ⟨k + 1, by omega, by go_num, rfl, HBWa.out⟩
          case measure => simp [RowKit.intOf]; omega
    · obtain rfl : k = L.length := by omega
      rw [show rb0 L ms (x1, x2) L.length = R from rb0_all.trans HRE.out]
      have hq := beq_nil (asB R)
      rw [bs_asB R] at hq
      have hqq := HQQ.out
      cases qq with
      | false =>
        rw [decide_eq_true (show R = [] from Decidable.not_not.1 (of_decide_eq_false hqq))] at hq
        clear hqq
        obtain ⟨rr, hrr⟩ : ∃ r, asB R = r := ⟨_, rfl⟩
        rw [hrr] at hq ⊢
        have HRR := Lib.hid hrr
        clear hrr
        go_wp2
        go_ret2
        refine ⟨?_, HB1.out.trans (HBW.out.mono HB1.out.size)⟩
        rw [HRR.out]
        try rfl
      | true =>
        rw [decide_eq_false (of_decide_eq_true hqq)] at hq
        clear hqq
        obtain ⟨rr, hrr⟩ : ∃ r, asB R = r := ⟨_, rfl⟩
        rw [hrr] at hq ⊢
        have HRR := Lib.hid hrr
        clear hrr
        go_wp2
        go_ret2
        refine ⟨?_, HB1.out.trans (HBW.out.mono HB1.out.size)⟩
        rw [HRR.out]
        try rfl
end Go.Proofs.YtohggdfplmlinaaGreatDoor
