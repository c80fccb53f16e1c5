/-
  layer 2 at the second seat: the reference's Check of words. Conditions: words that can be read, sounds of 32 bits.
-/
import Derived.Test.YtohggdfplmlinaaGreatDoorZaNtB
import Derived.Test.YtohggdfplmlinaaGreatDoorZaNtOs
import Derived.Test.YtohggdfplmlinaaGreatDoorZaap
import Derived.Test.YtohggdfplmlinaaGreatDoorZaal
namespace Go.Proofs.YtohggdfplmlinaaGreatDoor
open Go.RowKit Go.Lib

set_option maxRecDepth 20000 in
theorem rvalid2_any (s : Snd) (w : World) (hs : ok32 s) : Calls Tryz.prog 70 #[sndV s] w fun e w' => e = .returned (.bool (validS s)) ∧ Below w.heap.size w w' := by
  obtain ⟨r, hr⟩ : ∃ r, validS s = r := ⟨_, rfl⟩
  rw [hr]
  replace hr : decide (s.1 &&& s.2 = 0 ∧ s.1 < 16777216 ∧ s.2 < 16777216) = r := by
    rw [← hr]
    unfold validS
    exact decide_eq_decide.2 (and_congr Iff.rfl or_lt24.symm)
  have e1 := u32_and_nat s.1 s.2 hs.1 hs.2
  obtain ⟨a, b⟩ := s
  simp only [] at *
  have hb0 := (Below.refl w.heap.size w).alloc (Nat.le_refl _) (.cells #[.int .u32 a, .int .u32 b] 30)
  have HB := Lib.hid hb0
  generalize a &&& b = x at *
  clear hs hb0
  by_cases h1 : x = 0
  · subst h1
    by_cases h2 : a < 16777216
    · have h2I : (a : Int) < 16777216 := by omega
      by_cases h3 : b < 16777216
      · have h3I : (b : Int) < 16777216 := by omega
        obtain rfl : r = true := by rw [← hr]; exact decide_eq_true ⟨rfl, h2, h3⟩
        clear hr h2 h3
        go_enter Tryz.func70, Tryz.ntmps70
        go_wp2
        go_ret
        exact ⟨rfl, HB.out⟩
      · have h3I : ¬ (b : Int) < 16777216 := by omega
        obtain rfl : r = false := by rw [← hr]; exact decide_eq_false fun h => h3 h.2.2
        clear hr h2 h3
        go_enter Tryz.func70, Tryz.ntmps70
        go_wp2
        go_ret
        exact ⟨rfl, HB.out⟩
    · have h2I : ¬ (a : Int) < 16777216 := by omega
      obtain rfl : r = false := by rw [← hr]; exact decide_eq_false fun h => h2 h.2.1
      clear hr h2
      go_enter Tryz.func70, Tryz.ntmps70
      go_wp2
      go_ret
      exact ⟨rfl, HB.out⟩
  · have h1I : ((x : Int) == 0) = false := by rw [beq_eq_false_iff_ne]; omega
    obtain rfl : r = false := by rw [← hr]; exact decide_eq_false fun h => h1 h.1
    clear hr h1
    go_enter Tryz.func70, Tryz.ntmps70
    go_wp2
    go_ret
    exact ⟨rfl, HB.out⟩
set_option maxRecDepth 20000 in
set_option maxHeartbeats 1000000 in
theorem rcheck_any (A : Option Addr) (n c B : Nat) (ws : List Snd) (w : World) (hr : Reads w B 2 A n (ws.flatMap sndC)) (hB : B ≤ w.heap.size) (hn : n ≤ maxLen) (hok : ∀ s ∈ ws, ok32 s) :
    Calls Tryz.prog 38 #[.slice A n c] w fun e w' => e = .returned (.int .i64 (wordE ws)) ∧ Below w.heap.size w w' := by
  unfold maxLen at hn
  have hwl := hr.len_of (fun _ => rfl) (by decide)
  obtain ⟨r, hre⟩ : ∃ r, wordE ws = r := ⟨_, rfl⟩
  rw [hre]
  unfold wordE at hre
  rw [hwl] at hre
  have HRE := Lib.hid hre; have HR := Lib.hid hr; have HWL := Lib.hid hwl; have HOK := Lib.hid hok
  clear hr hwl hok hre
  by_cases h32 : 32 < n
  · have h32I : (32 : Int) < n := by omega
    go_enter Tryz.func38, Tryz.ntmps38
    go_wp2
    go_ret
    exact ⟨by rw [← HRE.out, if_pos h32]; rfl, Below.refl _ _⟩
  · have h32I : ¬ (32 : Int) < n := by omega
    go_enter Tryz.func38, Tryz.ntmps38
    go_wp2
    go_loopw [3] (fun i wr => ∃ k : Nat, k ≤ n ∧ i = .int .i64 k ∧ (ws.take k).all validS = true ∧ Below w.heap.size w wr) (fun i _ => n - (RowKit.intOf i).toNat)
    case atStart => exact ⟨0, by omega, rfl, by simp, Below.refl _ _⟩
    case round =>
      obtain ⟨k, hk, rfl, hall, hb⟩ := hrel
      have HALL := Lib.hid hall; have HB := Lib.hid hb
      clear hall hb
      by_cases hlt : k < n
      · have hkl : k < ws.length := by rw [HWL.out]; exact hlt
        have hkI : (k : Int) < (n : Int) := by omega
        have hk0 : (0 : Int) ≤ (k : Int) := by omega
        obtain ⟨ad, rfl, had, hc0, hc1⟩ := snd_cells (HR.out.below (HB.out.mono hB)) hkl
        have hst : (ws.take (k + 1)).all validS = ((ws.take k).all validS && validS ws[k]) := by rw [List.take_succ_eq_append_getElem hkl, List.all_append]; simp
        have HST := Lib.hid hst
        have hmem := List.getElem_mem hkl
        clear hst
        cases hv : validS ws[k]
        · have hmem' : ¬ (ws.all validS = true) := fun h => by rw [List.all_eq_true.1 h _ hmem] at hv; cases hv
          have HM := Lib.hid hmem'; have HV := Lib.hid hv
          have hOK := HOK.out _ hmem
          clear hmem' hv hmem
          generalize ws[k] = s at *
          go_wp2_with fail
          refine (rvalid2_any s _ hOK).mono ?_
          rw [HV.out]
          rintro e w2 ⟨rfl, hb2⟩
          have HB2 := Lib.hid hb2
          clear hb2
          go_wp2
          go_ret
          exact ⟨by rw [← HRE.out, if_neg h32, if_neg HM.out]; rfl, HB.out.trans (HB2.out.mono HB.out.size)⟩
        · have HV := Lib.hid hv
          have hOK := HOK.out _ hmem
          clear hv hmem
          generalize ws[k] = s at *
          go_wp2_with fail
          refine (rvalid2_any s _ hOK).mono ?_
          rw [HV.out]
          rintro e w2 ⟨rfl, hb2⟩
          have HB2 := Lib.hid hb2
          clear hb2
          go_wp2
          go_roundw
          case rel => exact ⟨k + 1, by omega, by go_num, by rw [HST.out, HALL.out, HV.out]; rfl, HB.out.trans (HB2.out.mono HB.out.size)⟩
          case measure => simp [RowKit.intOf]; omega
      · obtain rfl : k = n := by omega
        have hall := HALL.out
        rw [List.take_of_length_le (by rw [HWL.out]; exact Nat.le_refl _)] at hall
        have hE := HRE.out
        rw [if_neg h32, if_pos hall] at hE
        subst hE
        clear hall
        go_wp2
        go_ret
        exact ⟨rfl, HB.out⟩
end Go.Proofs.YtohggdfplmlinaaGreatDoor
namespace Go.Proofs.YtohggdfplmlinaaGreatDoor
open Go.RowKit Go.Lib

section
variable {w : World} {S : Nat → Prop} {g : Nat} {fs : List ByteArray} {L : List Nam} {ms : List Mk}
theorem rparse_n (s : ByteArray) (h : RNot w S g fs L ms) (hs : s.size ≤ maxLen) : Calls Tryz.prog 15 #[wptr g, .string s] w (ParsePost w (readR L ms (bs s))) := rparse_any s h (rread_any s h hs)
theorem rsplit_n (s : ByteArray) (h : RNot w S g fs L ms) (hs : s.size ≤ maxLen) : Calls Tryz.prog 17 #[wptr g, .string s] w (SplitPost w (readR L ms (bs s))) := rsplit_any s h (rread_any s h hs)
theorem rsame_n (s t : ByteArray) (h : RNot w S g fs L ms) (hs : s.size ≤ maxLen) (ht : t.size ≤ maxLen) :
    Calls Tryz.prog 23 #[wptr g, .string s, .string t] w fun e w' => e = .returned (.bool (sameR L ms (bs s) (bs t))) ∧ Below w.heap.size w w' :=
  rsame_any s t (fun _ hW => rparse_n s (h.below hW) hs) (fun _ hW => rparse_n t (h.below hW) ht)
set_option linter.unusedSimpArgs false in
set_option maxRecDepth 20000 in
set_option maxHeartbeats 4000000 in
theorem rprint_any (A : Option Addr) (n c : Nat) (ws : List Snd) (h : RNot w S g fs L ms) (hr : Reads w w.heap.size 2 A n (ws.flatMap sndC)) (hn : n ≤ c) (hc : c ≤ maxLen) (hok : ∀ s ∈ ws, ok32 s) :
    Calls Tryz.prog 11 #[wptr g, .slice A n c] w (RPrintPost w (printR L ms ws)) := by
  have hv := rnvalid_any h
  have hl := hr.len_of (fun _ => rfl) (by decide)
  subst hl
  have hwc := rcheck_any A ws.length c w.heap.size ws w hr (Nat.le_refl _) (Nat.le_trans hn hc) hok
  have hLs : (∀ x ∈ L, x.1.size ≤ 4) ∧ (∀ m ∈ ms, m.text.size ≤ 3) := ⟨fun x hx => sym_size ((rnot_parts h).2.sym x hx).1, (rnot_32 h).2⟩
  have HV := Lib.hid hv; have HW := Lib.hid hwc; have HLS := Lib.hid hLs; have H := Lib.hid h; have HR := Lib.hid hr
  clear hv hwc hLs h hr hok
  unfold maxLen at hc
  go_enter Tryz.func11, Tryz.ntmps11
  go_wp2_with fail
  refine HV.out.mono ?_
  rintro e w1 ⟨rfl, rfl⟩
  go_wp2_with fail
  refine HW.out.mono ?_
  rintro e w1 ⟨rfl, hb1⟩
  by_cases hE : wordE ws = 0
  · have e1 : (wordE ws != 0) = false := by rw [hE]; rfl
    have hw32 : ws.length ≤ 32 := by
      unfold wordE at hE
      split at hE
      · cases hE
      · omega
    have hpr : ∀ o, printK L ms [] [] ws = some o → printR L ms ws = (o, 0) := fun o ho => by unfold printR; rw [if_pos hE, ho]
    have hpn : printK L ms [] [] ws = none → printR L ms ws = ([], 14) := fun ho => by unfold printR; rw [if_pos hE, ho]
    have HPR := Lib.hid hpr; have HPN := Lib.hid hpn; have HB1 := Lib.hid hb1
    clear hb1 hpr hpn hE HV HW
    go_wp2
    go_loopw [7, 8] (fun o i wr => ∃ (k : Nat) (out : List UInt8), k ≤ ws.length ∧ i = .int .i64 k ∧ o = .string (asB out) ∧ out.length ≤ 11 * k ∧ printK L ms (ws.take k) out (ws.drop k) = printK L ms [] [] ws ∧ Below w.heap.size w wr) (fun _ i _ => ws.length - (RowKit.intOf i).toNat)
    case atStart => exact ⟨0, [], by omega, rfl, rfl, Nat.zero_le _, rfl, HB1.out⟩
    case round =>
      obtain ⟨k, out, hk, rfl, rfl, hol, hpk, hbw⟩ := hrel
      obtain ⟨W, rfl⟩ : ∃ W, W = wr := ⟨_, rfl⟩
      by_cases hlt : k < ws.length
      · have hkI : (k : Int) < (ws.length : Int) := by omega
        have hk0 : (0 : Int) ≤ (k : Int) := by omega
        have hrr := HR.out.below hbw
        obtain ⟨ad, rfl, had, e0, e1⟩ := snd_cells hrr hlt
        rw [List.drop_eq_getElem_cons hlt] at hpk
        have htk := List.take_succ_eq_append_getElem hlt
        generalize ws[k] = s at *
        have hsd := rsound_any s (H.out.below hbw)
        obtain ⟨bt, hbt⟩ : ∃ b, bestS L ms s = b := ⟨_, rfl⟩
        have hbl := bestS_len (s := s) HLS.out.1 HLS.out.2 (Nat.le_refl 10)
        rw [hbt] at hsd hbl
        have HSD := Lib.hid hsd; have HPK := Lib.hid hpk; have HTK := Lib.hid htk; have HBT := Lib.hid hbt; have HBW := Lib.hid hbw
        clear hrr hpk htk hsd hbt hbw
        obtain ⟨s1, s2⟩ := s
        go_wp2_with fail
        refine HSD.out.mono ?_
        rintro e w2 ⟨rfl, hb2⟩
        have hbw2 := HBW.out.trans (hb2.mono HBW.out.size)
        have HB2 := Lib.hid hbw2
        clear hb2 hbw2 e0 e1 HSD
        by_cases hbe : bt = []
        · have hfin := HPN.out ((printK_none HPK.out (HBT.out.trans hbe)) ▸ rfl)
          have HFIN := Lib.hid hfin
          rw [decide_eq_false (fun h => h hbe)]
          clear hfin hbe HPK HPN HPR
          go_wp2
          go_ret2
          rw [HFIN.out]
          exact ⟨rfl, HB2.out⟩
        · have hpk2 := printK_next HPK.out (by rw [HBT.out]; exact hbe)
          rw [HBT.out] at hpk2
          have hjl := joinS_len (L := L) (ms := ms) (ws.take k) out bt (s1, s2)
          rw [decide_eq_true hbe]
          have hbs : bs (asB out ++ asB bt) = out ++ bt := by rw [bs_append]; rfl
          have hsz1 : (asB out ++ asB bt).size ≤ 400 := by rw [← size_bs, hbs, List.length_append]; omega
          have hps := rparse_n (asB out ++ asB bt) (H.out.below HB2.out) (by unfold maxLen; omega)
          rw [hbs] at hps
          obtain ⟨R, hR⟩ : ∃ R, readR L ms (out ++ bt) = R := ⟨_, rfl⟩
          have hR32 := readR_w32 (L := L) (ms := ms) (out ++ bt)
          rw [hR] at hps hR32
          have hcat : asB out ++ asB bt = asB (out ++ bt) := str_eq hbs
          have hcat2 : asB out ++ ⟨#[46]⟩ ++ asB bt = asB (out ++ [46] ++ bt) := str_eq (by show bs (asB out ++ ⟨#[46]⟩ ++ asB bt) = out ++ [46] ++ bt; rw [bs_append, bs_append]; rfl)
          have hsz2 : (asB out ++ (⟨#[46]⟩ : ByteArray)).size ≤ 400 := by rw [ByteArray.size_append, ← size_bs (asB out), bs_asB out]; show out.length + 1 ≤ 400; omega
          have hsz3 : (asB out ++ (⟨#[46]⟩ : ByteArray) ++ asB bt).size ≤ 400 := by rw [hcat2, ← size_bs, bs_asB (out ++ [46] ++ bt), List.length_append, List.length_append]; show out.length + 1 + bt.length ≤ 400; omega
          have hj1 : R.e = 0 → R.w = ws.take (k + 1) → joinS L ms (ws.take k) out bt (s1, s2) = out ++ bt := fun h1 h2 => by
            unfold joinS
            rw [hR, if_pos ⟨h1, by rw [h2, HTK.out]⟩]
          have hj2 : ¬ (R.e = 0 ∧ R.w = ws.take (k + 1)) → joinS L ms (ws.take k) out bt (s1, s2) = out ++ [46] ++ bt := fun h => by
            unfold joinS
            rw [hR, if_neg (fun h1 => h ⟨h1.1, by rw [h1.2, HTK.out]⟩)]
          rw [← HTK.out] at hpk2
          have HPS := Lib.hid hps; have HPK2 := Lib.hid hpk2; have HJ1 := Lib.hid hj1; have HJ2 := Lib.hid hj2; have HJL := Lib.hid hjl; have HC1 := Lib.hid hcat; have HC2 := Lib.hid hcat2
          clear hps hpk2 hj1 hj2 hjl hcat hcat2 hbs hR hbe HPK HPN HPR HTK HBT HBW
          have hz1 : (asB out).size ≤ 352 := by rw [← size_bs, bs_asB out]; omega
          have hz2 : (asB bt).size ≤ 10 := by rw [← size_bs, bs_asB bt]; omega
          obtain ⟨o1, ho1⟩ : ∃ o, asB out = o := ⟨_, rfl⟩
          obtain ⟨o2, ho2⟩ : ∃ o, asB bt = o := ⟨_, rfl⟩
          rw [ho1, ho2] at HPS HC1 HC2 hsz1 hsz3
          rw [ho1] at hsz2 hz1
          rw [ho2] at hz2
          rw [ho1, ho2]
          clear ho1 ho2
          go_wp2_with fail
          refine HPS.out.mono ?_
          rintro e w4 ⟨vw, rfl, ho4, hb4⟩
          obtain ⟨A', c', rfl, -, -⟩ := ownsRow_form ho4
          have hbw4 := HB2.out.trans (hb4.mono HB2.out.size)
          have hr1 := Reads.of_own ho4
          have hr2 := (HR.out.below hbw4).pre (show k + 1 ≤ ws.length from hlt)
          rw [take_flat sndC 2 (fun _ => rfl)] at hr2
          have hsw4 := hbw4.size
          have heq := refEqual_any A' (some ad) R.w.length (k + 1) c' c w4.heap.size R.w (ws.take (k + 1)) w4 hr1 (hr2.more hsw4) (Nat.le_refl _) (by unfold maxLen; omega)
          have HEQ := Lib.hid heq; have HB4 := Lib.hid hbw4
          clear ho4 hb4 hbw4 hr1 hr2 heq HPS HB2
          have hkc : (k : Int) + 1 ≤ (c : Int) := by omega
          by_cases hre : R.e = 0
          · have e1 : (R.e != 0) = false := by rw [hre]; rfl
            by_cases hrw : R.w = ws.take (k + 1)
            · have hj := HJ1.out hre hrw
              have HEQ2 : Hid (Calls Tryz.prog 18 #[.slice A' R.w.length c', .slice (some ad) (k + 1) c] w4 fun e w' => e = .returned (.bool true) ∧ Below w4.heap.size w4 w') := Lib.hid (HEQ.out.mono (by rintro e w' ⟨rfl, -, h⟩; exact ⟨by rw [decide_eq_true hrw], h⟩))
              have HJ := Lib.hid hj
              clear hre hrw hj HEQ
              go_wp2_with fail
              refine HEQ2.out.mono ?_
              rintro e w5 ⟨rfl, hb5⟩
              have HB5 := Lib.hid (HB4.out.trans (hb5.mono hsw4))
              clear hb5 HEQ2
              go_wp2
              go_roundw
              case rel => exact ⟨k + 1, _, hlt, by go_num, by rw [HC1.out], by have := HJL.out; rw [HJ.out] at this; omega, by rw [← HJ.out]; exact HPK2.out, HB5.out⟩
              case measure => simp [RowKit.intOf]; omega
            · have hj := HJ2.out fun h => hrw h.2
              have HEQ2 : Hid (Calls Tryz.prog 18 #[.slice A' R.w.length c', .slice (some ad) (k + 1) c] w4 fun e w' => e = .returned (.bool false) ∧ Below w4.heap.size w4 w') := Lib.hid (HEQ.out.mono (by rintro e w' ⟨rfl, -, h⟩; exact ⟨by rw [decide_eq_false hrw], h⟩))
              have HJ := Lib.hid hj
              clear hre hrw hj HEQ
              go_wp2_with fail
              refine HEQ2.out.mono ?_
              rintro e w5 ⟨rfl, hb5⟩
              have HB5 := Lib.hid (HB4.out.trans (hb5.mono hsw4))
              clear hb5 HEQ2
              go_wp2
              go_roundw
              case rel => exact ⟨k + 1, _, hlt, by go_num, by rw [HC2.out], by have := HJL.out; rw [HJ.out] at this; omega, by rw [← HJ.out]; exact HPK2.out, HB5.out⟩
              case measure => simp [RowKit.intOf]; omega
          · have e1 : (R.e != 0) = true := by rw [bne_iff_ne]; exact hre
            have hj := HJ2.out fun h => hre h.1
            have HJ := Lib.hid hj
            clear hre hj HEQ
            go_wp2
            go_roundw
            case rel => exact ⟨k + 1, _, hlt, by go_num, by rw [HC2.out], by have := HJL.out; rw [HJ.out] at this; omega, by rw [← HJ.out]; exact HPK2.out, HB4.out⟩
            case measure => simp [RowKit.intOf]; omega
      · obtain rfl : k = ws.length := by omega
        rw [List.take_length, List.drop_length] at hpk
        have hpo := HPR.out out hpk.symm
        have HPO := Lib.hid hpo; have HBW := Lib.hid hbw
        clear hpo hpk hbw hlt
        go_wp2
        go_ret2
        rw [HPO.out]
        exact ⟨rfl, HBW.out⟩
  · have e1 : (wordE ws != 0) = true := by rw [bne_iff_ne]; exact hE
    have hfin : RPrintPost w (printR L ms ws) (.returned (.tuple #[.string ⟨#[]⟩, .int .i64 (wordE ws)])) w1 := by
      unfold printR
      rw [if_neg hE]
      exact ⟨rfl, hb1⟩
    have HFIN := Lib.hid hfin
    clear hfin hE hb1
    go_wp2
    go_ret2
    exact HFIN.out
theorem rwords (h : RNot w S g fs L ms) (t : List UInt8) : ∀ s ∈ (readR L ms t).w, ok32 s :=
  readR_w_ok (soundOf_ok (rnot_parts h).2) (fun m hm => ((rnot_parts h).1 m hm).2.1) t
theorem rnormal_n (s : ByteArray) (h : RNot w S g fs L ms) (hs : s.size ≤ maxLen) : Calls Tryz.prog 21 #[wptr g, .string s] w (RPrintPost w (normalR L ms (bs s))) :=
  rnormal_any s rfl (rparse_n s h hs) fun _ A n c hW hr hn => rprint_any A n c _ (h.below hW) hr hn.1 hn.2 (rwords h _)
end
end Go.Proofs.YtohggdfplmlinaaGreatDoor
namespace Go.Proofs.YtohggdfplmlinaaGreatDoor
open Go.RowKit Go.Lib

section
variable {w : World}
set_option maxRecDepth 20000 in
theorem rparse_nil (s : ByteArray) : Calls Tryz.prog 15 #[.pointer none, .string s] w fun e w' => e = .returned (.tuple #[.slice none 0 0, .int .i64 0, .int .i64 1]) ∧ w = w' := by
  have HC := Lib.hid (rnvalid_nil (w := w))
  go_enter Tryz.func15, Tryz.ntmps15
  go_wp2_with fail
  refine HC.out.mono ?_
  rintro e w1 ⟨rfl, rfl⟩
  go_wp2
  go_ret3
  exact ⟨rfl, rfl⟩
set_option maxRecDepth 20000 in
theorem rsplit_nil (s : ByteArray) : Calls Tryz.prog 17 #[.pointer none, .string s] w fun e w' => e = .returned (.tuple #[.slice none 0 0, .int .i64 0, .int .i64 1]) ∧ w = w' := by
  have HC := Lib.hid (rnvalid_nil (w := w))
  go_enter Tryz.func17, Tryz.ntmps17
  go_wp2_with fail
  refine HC.out.mono ?_
  rintro e w1 ⟨rfl, rfl⟩
  go_wp2
  go_ret3
  exact ⟨rfl, rfl⟩
set_option maxRecDepth 20000 in
theorem rsound_nil (x : Snd) : Calls Tryz.prog 13 #[.pointer none, sndV x] w fun e w' => e = .returned (.tuple #[.string ⟨#[]⟩, .bool false]) ∧ Below w.heap.size w w' := by
  have hc := fun W => rnvalid_nil (w := W)
  have HC := Lib.hid hc
  clear hc
  obtain ⟨x1, x2⟩ := x
  go_enter Tryz.func13, Tryz.ntmps13
  go_wp2_with fail
  refine (HC.out _).mono ?_
  rintro e w1 ⟨rfl, rfl⟩
  go_wp2
  go_ret2
  first
    | exact ⟨rfl, Below.refl _ _⟩
    | exact ⟨rfl, (Below.refl _ _).alloc (Nat.le_refl _) _⟩
set_option maxRecDepth 20000 in
theorem rprint_nil (A : Option Addr) (n c : Nat) : Calls Tryz.prog 11 #[.pointer none, .slice A n c] w fun e w' => e = .returned (.tuple #[.string ⟨#[]⟩, .int .i64 1]) ∧ w = w' := by
  have HC := Lib.hid (rnvalid_nil (w := w))
  go_enter Tryz.func11, Tryz.ntmps11
  go_wp2_with fail
  refine HC.out.mono ?_
  rintro e w1 ⟨rfl, rfl⟩
  go_wp2
  go_ret2
  exact ⟨rfl, rfl⟩
set_option maxRecDepth 20000 in
theorem rnormal_nil (s : ByteArray) : Calls Tryz.prog 21 #[.pointer none, .string s] w fun e w' => e = .returned (.tuple #[.string ⟨#[]⟩, .int .i64 1]) ∧ w = w' := by
  have HC := Lib.hid (rparse_nil (w := w) s)
  go_enter Tryz.func21, Tryz.ntmps21
  go_wp2_with fail
  refine HC.out.mono ?_
  rintro e w1 ⟨rfl, rfl⟩
  go_wp2
  go_ret2
  exact ⟨rfl, rfl⟩
set_option maxRecDepth 20000 in
theorem rsame_nil (a b : ByteArray) : Calls Tryz.prog 23 #[.pointer none, .string a, .string b] w fun e w' => e = .returned (.bool false) ∧ w = w' := by
  have HC := Lib.hid (fun s => rparse_nil (w := w) s)
  go_enter Tryz.func23, Tryz.ntmps23
  go_wp2_with fail
  refine (HC.out a).mono ?_
  rintro e w1 ⟨rfl, rfl⟩
  go_wp2_with fail
  refine (HC.out b).mono ?_
  rintro e w1 ⟨rfl, rfl⟩
  go_wp2
  go_ret
  exact ⟨rfl, rfl⟩
end
end Go.Proofs.YtohggdfplmlinaaGreatDoor
namespace Go.Proofs.YtohggdfplmlinaaGreatDoor
open Go.RowKit Go.Lib

theorem reads_cells {w : World} {q n k : Nat} {t : TypeId} {cs : List Value} (h : Blk w q t cs.toArray) (hl : cs.length = n * k) : Reads w (q + 1) k (some ⟨q, 0, none⟩) n cs :=
  ⟨hl, fun _ => ⟨_, rfl, Nat.lt_succ_self _, fun j u hu => by
    rw [add_at, h.cell j]
    simpa using hu⟩⟩
theorem four_blks (w : World) (c0 c1 c2 c3 : Array Value) (t0 t1 t2 t3 : TypeId) {W : World} (h : (((w.alloc (.cells c0 t0)).alloc (.cells c1 t1)).alloc (.cells c2 t2)).alloc (.cells c3 t3) = W) :
    (Blk W w.heap.size t0 c0 ∧ Blk W (w.heap.size + 1) t1 c1 ∧ Blk W (w.heap.size + 2) t2 c2 ∧ Blk W (w.heap.size + 3) t3 c3) ∧ W.heap.size = w.heap.size + 4 ∧ Below w.heap.size w W := by
  subst h
  have z1 := World.size_alloc w (.cells c0 t0)
  have z2 := World.size_alloc (w.alloc (.cells c0 t0)) (.cells c1 t1)
  have z3 := World.size_alloc ((w.alloc (.cells c0 t0)).alloc (.cells c1 t1)) (.cells c2 t2)
  have z4 := World.size_alloc (((w.alloc (.cells c0 t0)).alloc (.cells c1 t1)).alloc (.cells c2 t2)) (.cells c3 t3)
  have b0 := Blk.new w t0 c0
  have b1 := Blk.new (w.alloc (.cells c0 t0)) t1 c1
  have b2 := Blk.new ((w.alloc (.cells c0 t0)).alloc (.cells c1 t1)) t2 c2
  have b3 := Blk.new (((w.alloc (.cells c0 t0)).alloc (.cells c1 t1)).alloc (.cells c2 t2)) t3 c3
  rw [z1] at b1
  rw [z2, z1] at b2
  rw [z3, z2, z1] at b3
  exact ⟨⟨((b0.alloc _).alloc _).alloc _, (b1.alloc _).alloc _, b2.alloc _, b3⟩, by rw [z4, z3, z2, z1], ((((Below.refl _ w).alloc (Nat.le_refl _) _).alloc (by omega) _).alloc (by omega) _).alloc (by omega) _⟩
def ExPost (w : World) (e : Ending) (w' : World) : Prop := ∃ A1 A2 A3, e = .returned (caseV A1 A2 A3 3 3 4 4 2 2) ∧ CaseM w' w'.heap.size A1 A2 A3 3 3 4 4 2 2 exF exL exM ∧ Below w.heap.size w w'
set_option maxRecDepth 20000 in
set_option maxHeartbeats 1000000 in
theorem example_any (w : World) : Calls Tryz.prog 24 #[] w (ExPost w) := by
  go_enter Tryz.func24, Tryz.ntmps24
  go_wp2
  obtain ⟨W, hW⟩ : ∃ W, ((((w.alloc (.cells #[.slice (some ⟨w.heap.size + 1, 0, none⟩) 3 3, .slice (some ⟨w.heap.size + 1 + 1, 0, none⟩) 4 4, .slice (some ⟨w.heap.size + 1 + 1 + 1, 0, none⟩) 2 2] 26)).alloc (.cells #[.string ⟨#[118, 111, 105, 99, 101]⟩, .string ⟨#[115, 116, 111, 112]⟩, .string ⟨#[108, 111, 110, 103]⟩] 9)).alloc (.cells #[.string ⟨#[116]⟩, .int .u32 2, .int .u32 1, .string ⟨#[115]⟩, .int .u32 0, .int .u32 3, .string ⟨#[116, 115]⟩, .int .u32 0, .int .u32 1, .string ⟨#[97]⟩, .int .u32 1, .int .u32 2] 60)).alloc (.cells #[.string ⟨#[58]⟩, .int .u32 0, .int .u32 4, .int .u32 0, .string ⟨#[95]⟩, .int .u32 1, .int .u32 0, .int .u32 0] 83)) = W := ⟨_, rfl⟩
  rw [hW]
  obtain ⟨⟨k0, k1, k2, k3⟩, hz, hb⟩ := four_blks w _ _ _ _ _ _ _ _ hW
  have hfin : ExPost w (.returned (caseV (some ⟨w.heap.size + 1, 0, none⟩) (some ⟨w.heap.size + 1 + 1, 0, none⟩) (some ⟨w.heap.size + 1 + 1 + 1, 0, none⟩) 3 3 4 4 2 2)) W := by
    refine ⟨_, _, _, rfl, ⟨Nat.le_refl _, (reads_cells (n := 3) (k := 1) (cs := exF.map Value.string) k1 rfl).more (by omega), (reads_cells (n := 4) (k := 3) (cs := exL.flatMap namC) k2 rfl).more (by omega), (reads_cells (n := 2) (k := 4) (cs := exM.flatMap markC) k3 rfl).more (by omega), Nat.le_refl _, ⟨Nat.le_refl _, by decide⟩, Nat.le_refl _, ?_, ?_, ?_⟩, hb⟩
    · decide
    · intro x hx
      simp only [exL, List.mem_cons, List.not_mem_nil, or_false] at hx
      rcases hx with rfl | rfl | rfl | rfl <;> exact ⟨⟨by unfold is32; decide, by unfold is32; decide⟩, by decide⟩
    · intro x hx
      simp only [exM, List.mem_cons, List.not_mem_nil, or_false] at hx
      rcases hx with rfl | rfl <;> exact ⟨by unfold is32; decide, ⟨by unfold is32; decide, by unfold is32; decide⟩, by decide⟩
  have c0 := k0.cell 0; have c1 := k0.cell 1; have c2 := k0.cell 2
  simp only [List.getElem?_toArray, List.getElem?_cons_zero, List.getElem?_cons_succ] at c0 c1 c2
  have HFIN := Lib.hid hfin
  clear hfin hW
  exact bodyPost_ret (v := caseV (some ⟨w.heap.size + 1, 0, none⟩) (some ⟨w.heap.size + 1 + 1, 0, none⟩) (some ⟨w.heap.size + 1 + 1 + 1, 0, none⟩) 3 3 4 4 2 2) (by simp [results, Tryz.results24, go_sem, c0, c1, c2]) rfl HFIN.out
theorem ex_case : caseE exF exM = 0 := by
  unfold caseE
  rw [if_pos ex_new]
  exact ex_marks
set_option maxRecDepth 20000 in
set_option maxHeartbeats 2000000 in
theorem works_any (w : World) : Calls Tryz.prog 7 #[] w fun e w' => e = .returned (.bool true) ∧ Below w.heap.size w w' := by
  have hex := example_any w
  have HEX := Lib.hid hex
  clear hex
  go_enter Tryz.func7, Tryz.ntmps7
  go_wp2_with fail
  refine HEX.out.mono ?_
  rintro e w1 ⟨A1, A2, A3, rfl, hC, hb1⟩
  have hm := made_c hC
  have HM := Lib.hid hm; have HB1 := Lib.hid hb1
  clear hC hb1 hm HEX
  go_wp2_with fail
  refine HM.out.mono ?_
  rintro e w2 ⟨hb2, ⟨-, g, rfl, hn⟩ | ⟨hne, -⟩⟩
  rotate_left
  · exact absurd ex_case hne
  rw [show exF.length = 3 from rfl, ex_adds] at hn
  have hB2 := HB1.out.trans (hb2.mono HB1.out.size)
  have hz2 := hb2.size
  have HBW : Hid (w.heap.size ≤ w1.heap.size) := Lib.hid HB1.out.size
  have hp1 := parse_any (w := w2) ⟨#[116, 46, 115, 97]⟩ ⟨_, hn⟩ (by decide)
  rw [show bs ⟨#[116, 46, 115, 97]⟩ = [116, 46, 115, 97] from rfl, ex_read1] at hp1
  have HP1 := Lib.hid hp1; have HN := Lib.hid hn; have HB2 := Lib.hid hB2
  clear hp1 hn hB2 hb2 HM HB1
  go_wp2_with fail
  refine HP1.out.mono ?_
  rintro e w3 ⟨v, rfl, ho, hb3⟩
  obtain ⟨A, c, rfl, hc1, hc2⟩ := ownsRow_form ho
  have hn3 := HN.out.below hb3
  have hB3 := HB2.out.trans (hb3.mono HB2.out.size)
  have hz3 := hb3.size
  have hpr := print_any A 3 c [(2, 1), (0, 3), (1, 2)] (fun b => w2.heap.size ≤ b) hn3 (fun b hb => by have := hb.2; omega) (RowS.of_own ho (fun b hb' => (ho.lt b hb').1)) (fun b h1 h2 => by have := h2.2; omega) hc1 hc2 (by
    intro s hs
    simp only [List.mem_cons, List.not_mem_nil, or_false] at hs
    rcases hs with rfl | rfl | rfl <;> exact ⟨by unfold is32; decide, by unfold is32; decide⟩) (by omega)
  rw [ex_print] at hpr
  have HPR := Lib.hid hpr; have HB3 := Lib.hid hB3
  clear hpr hn3 hB3 hb3 ho HP1 HN HB2
  go_wp2_with fail
  refine HPR.out.mono ?_
  rintro e w4 ⟨rfl, hn4, hc4⟩
  have hs4 := hc4.size
  have hz34 : w.heap.size ≤ w3.heap.size := HB3.out.size
  have hB4 : Below w.heap.size w w4 := HB3.out.trans (hc4.below (B := w.heap.size) (fun i hi => by have := hi.1; have := HBW.out; omega) hz34)
  have hp2 := parse_any (w := w4) ⟨#[116, 46]⟩ ⟨_, hn4⟩ (by decide)
  rw [show bs ⟨#[116, 46]⟩ = [116, 46] from rfl, ex_read2] at hp2
  have HP2 := Lib.hid hp2; have HN4 := Lib.hid hn4; have HB4 := Lib.hid hB4
  clear hp2 hn4 hc4 hB4 HPR HB3
  go_wp2_with fail
  refine HP2.out.mono ?_
  rintro e w5 ⟨v5, rfl, ho5, hb5⟩
  obtain ⟨A5, c5, rfl, -, -⟩ := ownsRow_form ho5
  have hn5 := HN4.out.below hb5
  have hB5 := HB4.out.trans (hb5.mono HB4.out.size)
  have hz5 := hb5.size
  have hnm := normal_any (w := w5) ⟨#[116, 46, 97]⟩ hn5 (fun b hb => by have := hb.2; omega) (by decide) (by omega)
  rw [show bs ⟨#[116, 46, 97]⟩ = [116, 46, 97] from rfl, ex_normal] at hnm
  have HNM := Lib.hid hnm; have HB5 := Lib.hid hB5
  clear hnm hn5 hB5 hb5 ho5 HP2 HN4 HB4
  go_wp2_with fail
  refine HNM.out.mono ?_
  rintro e w6 ⟨rfl, -, hc6⟩
  have hz56 : w.heap.size ≤ w5.heap.size := HB5.out.size
  have hB6 : Below w.heap.size w w6 := HB5.out.trans (hc6.below (B := w.heap.size) (fun i hi => by have := hi.1; have := HBW.out; omega) hz56)
  have HB6 := Lib.hid hB6
  clear hB6 hc6 HNM HB5
  go_wp2
  go_ret
  exact ⟨rfl, HB6.out⟩
end Go.Proofs.YtohggdfplmlinaaGreatDoor
namespace Go.Proofs.YtohggdfplmlinaaGreatDoor
open Go.RowKit Go.Lib

theorem ChgS.low {w w' : World} {S : Nat → Prop} {B : Nat} (h : ChgS S w w') (hS : ∀ b, S b → B ≤ b) (hw : B ≤ w.heap.size) : Below B w w' := h.below hS hw
theorem NotN.lens {w : World} {S : Nat → Prop} {g N : Nat} {fs : List ByteArray} {L : List Nam} {ms : List Mk} (h : NotN w S g fs L ms N) : (∀ x ∈ L, x.1.size ≤ 4) ∧ (∀ m ∈ ms, m.text.size ≤ 3) := by
  obtain ⟨gi, A, c, bm, n, f, -, h2, -, -, -, -, h6⟩ := h
  exact ⟨fun x hx => sym_size (h2.ok.sym x hx).1, mark_size h6⟩
section
variable {L : List Nam} {ms : List Mk}
theorem printK_len (hL : ∀ x ∈ L, x.1.size ≤ 4) (hm : ∀ m ∈ ms, m.text.size ≤ 3) : ∀ (rest done : List Snd) (out o : List UInt8), printK L ms done out rest = some o → o.length ≤ out.length + 11 * rest.length
  | [], _, out, o, h => by
    injection h with h
    subst h
    exact Nat.le_add_right _ _
  | s :: rest, done, out, o, h => by
    by_cases hb : bestS L ms s = []
    · have := printK_none h hb
      cases this
    · have := printK_len hL hm rest _ _ o (printK_next h hb)
      have h1 := joinS_len (L := L) (ms := ms) done out (bestS L ms s) s
      have h2 := bestS_len (s := s) hL hm (Nat.le_refl 10)
      rw [List.length_cons]
      omega
theorem printR_len (hL : ∀ x ∈ L, x.1.size ≤ 4) (hm : ∀ m ∈ ms, m.text.size ≤ 3) (ws : List Snd) : (printR L ms ws).1.length ≤ 352 := by
  unfold printR
  split
  · rename_i hE
    have h32 : ws.length ≤ 32 := by
      unfold wordE at hE
      split at hE
      · cases hE
      · omega
    cases hk : printK L ms [] [] ws with
    | none => exact Nat.zero_le _
    | some o =>
      have := printK_len hL hm ws [] [] o hk
      simp only [List.length_nil] at this
      show o.length ≤ 352
      omega
  · exact Nat.zero_le _
end
end Go.Proofs.YtohggdfplmlinaaGreatDoor
