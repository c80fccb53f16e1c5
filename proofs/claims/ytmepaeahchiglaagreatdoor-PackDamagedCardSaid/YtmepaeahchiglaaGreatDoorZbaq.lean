/-
  layer 26: Check of a history with its prototypes and entries. Conditions: what can be read.
-/
import Derived.Test.YtmepaeahchiglaaGreatDoorZbap
import Derived.Test.YtmepaeahchiglaaGreatDoorZbaj
namespace Go.Proofs.YtmepaeahchiglaaGreatDoor
open Go.RowKit Go.Lib

set_option linter.unusedSimpArgs false in
set_option maxRecDepth 20000 in
set_option maxHeartbeats 4000000 in
theorem attest_any (v4 v5 v6 v7 v8 : Value) (B : Nat) (t : List Nd) (laws : List Lw) (on : List (List Int)) (protos : List Fm) (es : List En) (w : World) (h4 : SlC NdC 2 w B t v4) (h5 : SlC LawC 18 w B laws v5) (h6 : SlC OnC 1 w B on v6) (h7 : SlC FormC 2 w B protos v7) (h8 : SlC EnC 2 w B es v8) (hB : B ≤ w.heap.size) (hs : ∀ x ∈ t, x.2.size ≤ maxLen) (hln : ∀ l ∈ laws, l.name.size ≤ maxLen) (hon : ∀ l ∈ on, l.length ≤ 1000000000) (hg : ∀ x ∈ es, x.gloss.size ≤ maxLen) (hop : ∀ f ∈ protos, ∀ s ∈ f.w, ok32 s) (hoe : ∀ x ∈ es, ∀ f ∈ x.forms, ∀ s ∈ f.w, ok32 s) :
    Calls Tryz.prog 61 #[.agg #[v4, v5, v6], v7, v8] w fun e w' => e = .returned (.int .i64 (attE t laws on protos es)) ∧ Below w.heap.size w w' := by
  obtain ⟨A4, m4, c4, rfl, -⟩ := h4.form
  obtain ⟨A5, m5, c5, rfl, -⟩ := h5.form
  obtain ⟨A6, m6, c6, rfl, -⟩ := h6.form
  obtain ⟨A7, m7, c7, rfl, e7⟩ := h7.form
  obtain ⟨A8, m8, c8, rfl, e8⟩ := h8.form
  have hm8 := h8.len.2.1
  have hm8' := h8.len.2.2
  have hm7 := h7.len.2.1
  have hm7' := h7.len.2.2
  unfold maxLen at hm8' hm7'
  obtain ⟨r, hre⟩ : ∃ r, attE t laws on protos es = r := ⟨_, rfl⟩
  rw [hre]
  rw [attE_eq] at hre
  have hb0 := (Below.refl w.heap.size w).alloc (Nat.le_refl _) (.cells #[.slice A4 m4 c4, .slice A5 m5 c5, .slice A6 m6 c6] 29)
  have hk0 := Blk.new w 29 #[.slice A4 m4 c4, .slice A5 m5 c5, .slice A6 m6 c6]
  have hkp := fun (W : World) (hW : Below w.heap.size w W) => fun (p : Addr) (hp : p.block < B) => hW.cell (p := p) (Nat.lt_of_lt_of_le hp hB)
  have hle := fun (W : World) (hW : Below w.heap.size w W) => Nat.le_trans hB hW.size
  have c1 := fun (W : World) (hW : Below w.heap.size w W) => histCheck_any _ _ _ B t laws on W (SlC.plain (hkp W hW) h4 (fun _ _ h => h)) (SlC.plain (hkp W hW) h5 (fun _ _ h => h.keep (hkp W hW))) (SlC.plain (hkp W hW) h6 (fun _ _ h => OnC.keep (hkp W hW) h)) (hle W hW) hs hln hon
  have c2 := fun (W : World) (hW : Below w.heap.size w W) => Leaves_any _ B t W (SlC.plain (hkp W hW) h4 (fun _ _ h => h)) (hle W hW) hs
  have c3 := fun (W : World) (hW : Below w.heap.size w W) => empty_any _ B protos W (SlC.plain (hkp W hW) h7 (fun _ _ h => FormC.keep (hkp W hW) h)) (hle W hW)
  have c4' := fun (W : World) (hW : Below w.heap.size w W) => entries_any _ (leafs t).length B es W (SlC.plain (hkp W hW) h8 (fun _ _ h => EnC.keep (hkp W hW) h)) (hle W hW) hg
  have c5' := fun (W : World) (hW : Below w.heap.size w W) => words_any _ B protos W (SlC.plain (hkp W hW) h7 (fun _ _ h => FormC.keep (hkp W hW) h)) (hle W hW) hop
  have c6' := fun (W : World) (hW : Below w.heap.size w W) (x : En) (hx : x ∈ es) (v : Value) (hv : SlC FormC 2 W B x.forms v) => words_any v B x.forms W hv (hle W hW) (hoe x hx)
  have h8' := fun (W : World) (hW : Below w.heap.size w W) => SlC.plain (hkp W hW) h8 (fun _ _ h => EnC.keep (hkp W hW) h)
  have C1 := Lib.hid (c1 _ hb0); have C2 := Lib.hid c2; have C3 := Lib.hid c3; have C4 := Lib.hid c4'; have C5 := Lib.hid c5'; have C6 := Lib.hid c6'; have H8 := Lib.hid h8'; have HKP := Lib.hid hkp
  have HRE := Lib.hid hre; have E7 := Lib.hid e7; have E8 := Lib.hid e8; have HB0 := Lib.hid hb0; have HK0 := Lib.hid hk0
  have g0 := hk0.cell 0
  have g1 := hk0.cell 1
  have g2 := hk0.cell 2
  simp only [List.getElem?_toArray, List.getElem?_cons_zero, List.getElem?_cons_succ] at g0 g1 g2
  have hp := fun (W : World) (hW : Below w.heap.size w W) (hW2 : Blk W w.heap.size 29 #[.slice A4 m4 c4, .slice A5 m5 c5, .slice A6 m6 c6]) => hW2.cell 0
  have HP := Lib.hid hp
  obtain ⟨hle0, hlt0⟩ : w.heap.size ≤ (w.alloc (.cells #[.slice A4 m4 c4, .slice A5 m5 c5, .slice A6 m6 c6] 29)).heap.size ∧ w.heap.size < (w.alloc (.cells #[.slice A4 m4 c4, .slice A5 m5 c5, .slice A6 m6 c6] 29)).heap.size := by simp
  clear h4 h5 h6 h7 h8 c1 c2 c3 c4' c5' c6' h8' hkp hle hs hln hon hg hop hoe hre e7 e8 hb0 hk0 hp
  go_enter Tryz.func61, Tryz.ntmps61
  go_wp2_with fail
  refine C1.out.mono ?_
  rintro e w1 ⟨rfl, hb1⟩
  have HB1 := Lib.hid (HB0.out.trans (hb1.mono HB0.out.size)); have HK1 := Lib.hid (HK0.out.below hb1 hlt0)
  clear hb1 g0 g1 g2 C1
  by_cases hh : histE t laws on = 0
  case neg =>
    have hhI : (histE t laws on != (0 : Int)) = true := by rw [bne_iff_ne]; exact hh
    obtain rfl : r = histE t laws on := by rw [← HRE.out, if_neg hh]
    clear hh
    go_wp2
    go_ret
    exact ⟨rfl, HB1.out⟩
  have hhI : (histE t laws on != (0 : Int)) = false := by rw [hh]; rfl
  have hre := HRE.out
  rw [if_pos hh] at hre
  have HRE := Lib.hid hre
  have HT := Lib.hid (histE_parts hh).1
  have g0 := HK1.out.cell 0
  simp only [List.getElem?_toArray, List.getElem?_cons_zero, List.getElem?_cons_succ] at g0
  clear hh hre
  go_wp2_with fail
  refine (C2.out w1 HB1.out HT.out).mono ?_
  rintro e w2 ⟨AL, cL, rfl, hb2⟩
  have HB2 := Lib.hid (HB1.out.trans (hb2.mono HB1.out.size))
  obtain ⟨nl, hnl⟩ : ∃ nl, (leafs t).length = nl := ⟨_, rfl⟩
  have hc4 := C4.out
  have hre := HRE.out
  rw [hnl] at hc4 hre ⊢
  have C4 := Lib.hid hc4; have HRE := Lib.hid hre
  clear hb2 g0 hc4 hnl
  by_cases h256 : 256 < m8
  · have h256I : (256 : Int) < (m8 : Int) := by omega
    obtain rfl : r = 12 := by rw [← hre, if_pos (by rw [← E8.out]; exact h256)]
    clear hre h256
    go_wp2
    go_ret
    exact ⟨rfl, HB2.out⟩
  have h256I : ¬ (256 : Int) < (m8 : Int) := by omega
  rw [if_neg (by rw [← E8.out]; exact h256)] at hre
  have HRE := Lib.hid hre
  clear hre h256
  by_cases h78 : m7 = m8
  case neg =>
    have h78I : ((m7 : Int) != (m8 : Int)) = true := by rw [bne_iff_ne]; omega
    obtain rfl : r = 2 := by rw [← HRE.out, if_neg (fun h => h78 (by rw [E7.out, E8.out]; exact h.1))]
    clear h78
    go_wp2
    go_ret
    exact ⟨rfl, HB2.out⟩
  have h78I : ((m7 : Int) != (m8 : Int)) = false := by rw [h78]; simp
  clear h78
  go_wp2_with fail
  refine (C3.out w2 HB2.out).mono ?_
  rintro e w3 ⟨rfl, hb3⟩
  have HB3 := Lib.hid (HB2.out.trans (hb3.mono HB2.out.size))
  have hre := HRE.out
  have h78 : protos.length = es.length := by
    rw [← E7.out, ← E8.out]
    by_cases e : m7 = m8
    · exact e
    · rw [bne_eq_false_iff_eq] at h78I; omega
  have hq1 : emptyF protos = false → r = 2 := fun e => by rw [← hre, if_neg (fun h => by rw [e] at h; exact absurd h.2 (by decide))]
  have hq2 := fun e : emptyF protos = true => (by rw [if_pos ⟨h78, e⟩] at hre; exact hre : (if entsE nl es = 0 then if wordsE protos = 0 then entsW es else wordsE protos else entsE nl es) = r)
  obtain ⟨q, hq⟩ : ∃ q, emptyF protos = q := ⟨_, rfl⟩
  rw [hq] at hq1 hq2 ⊢
  have HQ1 := Lib.hid hq1; have HQ2 := Lib.hid hq2
  clear hb3 hre h78 hq hq1 hq2
  cases q with
  | false =>
    obtain rfl : r = 2 := HQ1.out rfl
    go_wp2
    go_ret
    exact ⟨rfl, HB3.out⟩
  | true =>
    have HRE := Lib.hid (HQ2.out rfl)
    go_wp2_with fail
    refine (C4.out w3 HB3.out).mono ?_
    rintro e w4 ⟨rfl, hb4⟩
    have HB4 := Lib.hid (HB3.out.trans (hb4.mono HB3.out.size))
    clear hb4
    obtain ⟨a, ha⟩ : ∃ a, entsE nl es = a := ⟨_, rfl⟩
    have hre := HRE.out
    rw [ha] at hre ⊢
    have HRE := Lib.hid hre
    clear hre ha
    by_cases hz : a = 0
    case neg =>
      have hzI : (a != (0 : Int)) = true := by rw [bne_iff_ne]; exact hz
      obtain rfl : r = a := by rw [← HRE.out, if_neg hz]
      clear hz
      go_wp2
      go_ret
      exact ⟨rfl, HB4.out⟩
    have hzI : (a != (0 : Int)) = false := by rw [hz]; rfl
    have hre := HRE.out
    rw [if_pos hz] at hre
    have HRE := Lib.hid hre
    clear hre hz
    go_wp2_with fail
    refine (C5.out w4 HB4.out).mono ?_
    rintro e w5 ⟨rfl, hb5⟩
    have HB5 := Lib.hid (HB4.out.trans (hb5.mono HB4.out.size))
    clear hb5
    obtain ⟨d, hd⟩ : ∃ d, wordsE protos = d := ⟨_, rfl⟩
    have hre := HRE.out
    rw [hd] at hre ⊢
    have HRE := Lib.hid hre
    clear hre hd
    by_cases hz : d = 0
    case neg =>
      have hzdI : (d != (0 : Int)) = true := by rw [bne_iff_ne]; exact hz
      obtain rfl : r = d := by rw [← HRE.out, if_neg hz]
      clear hz
      go_wp2
      go_ret
      exact ⟨rfl, HB5.out⟩
    have hzdI : (d != (0 : Int)) = false := by rw [hz]; rfl
    have hre := HRE.out
    rw [if_pos hz] at hre
    have HRE := Lib.hid hre
    clear hre hz
    go_wp2
    go_loopw [55] (fun i wr => ∃ k : Nat, k ≤ m8 ∧ i = .int .i64 k ∧ entsW (es.take k) = 0 ∧ Below w.heap.size w wr) (fun i _ => m8 - (RowKit.intOf i).toNat)
    case atStart => exact ⟨0, by omega, rfl, by rw [List.take_zero]; rfl, HB5.out⟩
    case round =>
      obtain ⟨k, hk, rfl, hno, hb⟩ := hrel
      have HNO := Lib.hid hno; have HB := Lib.hid hb
      clear hno hb
      by_cases hlt : k < m8
      · have hkl : k < es.length := by have := E8.out; omega
        have hkI : (k : Int) < (m8 : Int) := by omega
        have hk0 : (0 : Int) ≤ (k : Int) := by omega
        obtain ⟨ad, cs, rfl, had, hP, hcc⟩ := slC_cells en_len (H8.out wr HB.out) hkl
        obtain ⟨v, rfl, hv⟩ := hP
        obtain ⟨Ax, nx, cx, rfl, -⟩ := hv.form
        have e0 := hcc 0 _ rfl
        have e1 := hcc 1 _ rfl
        rw [Nat.add_zero] at e0
        rw [add_next ad (k * 2) 0] at e1
        obtain ⟨hst, hbad⟩ := entsW_next hkl HNO.out
        have hmem : es[k] ∈ es := List.getElem_mem hkl
        generalize es[k] = x at *
        obtain ⟨gl, fl⟩ := x
        simp only [] at *
        have hba := HB.out.alloc HB.out.size (.cells #[.string gl, .slice Ax nx cx] 84)
        have hkeepA : ∀ p : Addr, p.block < B → (wr.alloc (.cells #[.string gl, .slice Ax nx cx] 84)).cell? p = wr.cell? p := fun p hp => World.cell?_alloc_lt wr _ p (by have := HB.out.size; omega)
        have hc := C6.out _ hba _ hmem _ (SlC.plain hkeepA hv (fun _ _ h => FormC.keep hkeepA h))
        simp only [] at hc
        obtain ⟨b, hb⟩ : ∃ b, wordsE fl = b := ⟨_, rfl⟩
        rw [hb] at hc hst hbad
        have HC := Lib.hid hc; have HST := Lib.hid hst; have HBAD := Lib.hid hbad; have HBA := Lib.hid hba
        clear hst hbad hcc hv hc hba hkeepA hb hmem
        go_wp2_with fail
        refine HC.out.mono ?_
        rintro e w7 ⟨rfl, hb7⟩
        have HB7 := Lib.hid (HBA.out.trans (hb7.mono HBA.out.size))
        clear hb7
        by_cases hz : b = 0
        · have hzbI : (b != (0 : Int)) = false := by rw [hz]; rfl
          have hst := HST.out
          rw [hz] at hst
          have HST2 := Lib.hid hst
          clear hz hst
          go_wp2
          go_roundw
          case rel => exact ⟨k + 1, by omega, by go_num, HST2.out, HB7.out⟩
          case measure => simp [RowKit.intOf]; omega
        · have hzbI : (b != (0 : Int)) = true := by rw [bne_iff_ne]; exact hz
          obtain rfl : r = b := HRE.out.symm.trans (HBAD.out hz)
          clear hz
          go_wp2
          go_ret
          exact ⟨rfl, HB7.out⟩
      · obtain rfl : k = m8 := by omega
        have hno := HNO.out
        rw [List.take_of_length_le (by have := E8.out; omega)] at hno
        obtain rfl : r = 0 := HRE.out.symm.trans hno
        clear hno
        go_wp2
        go_ret
        exact ⟨rfl, HB.out⟩
end Go.Proofs.YtmepaeahchiglaaGreatDoor
namespace Go.Proofs.YtmepaeahchiglaaGreatDoor
open Go.RowKit Go.Lib

theorem mask_bit (n i : Nat) (hn : n ≤ 32) : (4294967295 - (2 ^ n - 1)).testBit i = (decide (i < 32) && !decide (i < n)) := by
  have hp : 0 < 2 ^ n := Nat.two_pow_pos n
  have hle : 2 ^ n ≤ 2 ^ 32 := Nat.pow_le_pow_right (by decide) hn
  have e : 4294967295 - (2 ^ n - 1) = 2 ^ 32 - ((2 ^ n - 1) + 1) := by omega
  rw [e, Nat.testBit_two_pow_sub_succ (by omega), Nat.testBit_two_pow_sub_one]
theorem mask0 {o n : Nat} (ho : o < 4294967296) (hn : n ≤ 32) : o &&& (4294967295 - (2 ^ n - 1)) = 0 ↔ o < 2 ^ n := by
  constructor
  · intro h
    refine Nat.lt_pow_two_of_testBit _ fun i hi => ?_
    by_cases h32 : i < 32
    · have hb := congrArg (fun x => x.testBit i) h
      simp only [Nat.testBit_and, mask_bit n i hn, Nat.zero_testBit, decide_eq_true h32, decide_eq_false (show ¬ i < n by omega), Bool.not_false, Bool.and_self, Bool.and_true] at hb
      exact hb
    · exact Nat.testBit_lt_two_pow (Nat.lt_of_lt_of_le ho (Nat.pow_le_pow_right (n := 2) (by decide) (show 32 ≤ i by omega)))
  · intro h
    refine Nat.eq_of_testBit_eq fun i => ?_
    rw [Nat.zero_testBit, Nat.testBit_and, mask_bit n i hn]
    by_cases hi : i < n
    · rw [decide_eq_true hi]; simp
    · rw [Nat.testBit_lt_two_pow (Nat.lt_of_lt_of_le h (Nat.pow_le_pow_right (by decide) (by omega)))]; rfl
theorem pow_int {n : Nat} (hn : n ≤ 24) : ((2 : Int) ^ n - 1) % 4294967296 = ((2 ^ n - 1 : Nat) : Int) := by
  have hp : 0 < 2 ^ n := Nat.two_pow_pos n
  have hle : 2 ^ n ≤ 2 ^ 24 := Nat.pow_le_pow_right (by decide) hn
  have e : ((2 : Int) ^ n) = ((2 ^ n : Nat) : Int) := by simp
  rw [e]
  omega
set_option maxRecDepth 20000 in
theorem belongs_any {w : World} {S : Nat → Prop} {g : Nat} {fs : List ByteArray} {L : List Nam} (s : Snd) (h : InvM w S g fs L) (hs : ok32 s) : Calls Tryz.prog 211 #[wptr g, sndV s] w fun e w' => e = .returned (.bool (belongs fs.length s)) ∧ Below w.heap.size w w' := by
  obtain ⟨A, c, A2, c2, b1, b2, b3, f2, f3, h1, -, -, -, -⟩ := h.parts
  have hf24 := h.ok.f24
  have hgl := h1.lt
  have c0 := h1.cell 0
  simp only [List.getElem?_toArray, List.getElem?_cons_zero] at c0
  have e1 := u32_and_nat s.1 s.2 hs.1 hs.2
  have e2 := u32_or_nat s.1 s.2 hs.1 hs.2
  have h32 : s.1 ||| s.2 < 4294967296 := Nat.or_lt_two_pow (n := 32) hs.1 hs.2
  have hp := pow_int hf24
  have hm : 2 ^ fs.length - 1 < 4294967296 := by have := Nat.pow_le_pow_right (n := 2) (by decide) hf24; omega
  have e3 := u32_andNot_nat (s.1 ||| s.2) (2 ^ fs.length - 1) h32 hm
  have hq := mask0 h32 (show fs.length ≤ 32 by omega)
  obtain ⟨r, hr⟩ : ∃ r, belongs fs.length s = r := ⟨_, rfl⟩
  rw [hr]
  have hr' : decide (s.1 &&& s.2 = 0 ∧ (s.1 ||| s.2) &&& (4294967295 - (2 ^ fs.length - 1)) = 0) = r := by
    rw [← hr]; exact decide_eq_decide.2 (and_congr_right fun _ => hq)
  replace hr := hr'
  clear hr'
  generalize fs.length = n at *
  obtain ⟨x, y⟩ := s
  simp only [] at *
  clear h1 h hs hq
  generalize (x ||| y) &&& (4294967295 - (2 ^ n - 1)) = q at *
  generalize 2 ^ n - 1 = m at *
  generalize x ||| y = o at *
  generalize x &&& y = a at *
  by_cases ha : a = 0
  · subst ha
    by_cases hq0 : q = 0
    · subst hq0
      obtain rfl : r = true := by rw [← hr]; simp
      clear hr
      go_enter Tryz.func211, Tryz.ntmps211
      go_wp2
      go_ret
      exact ⟨rfl, (Below.refl _ _).alloc (Nat.le_refl _) _⟩
    · obtain rfl : r = false := by rw [← hr]; simp [hq0]
      have hqI : ((q : Int) == 0) = false := by rw [beq_eq_false_iff_ne]; omega
      clear hr hq0
      go_enter Tryz.func211, Tryz.ntmps211
      go_wp2
      go_ret
      exact ⟨rfl, (Below.refl _ _).alloc (Nat.le_refl _) _⟩
  · obtain rfl : r = false := by rw [← hr]; simp [ha]
    have haI : ((a : Int) == 0) = false := by rw [beq_eq_false_iff_ne]; omega
    clear hr ha
    go_enter Tryz.func211, Tryz.ntmps211
    go_wp2
    go_ret
    exact ⟨rfl, (Below.refl _ _).alloc (Nat.le_refl _) _⟩
set_option maxRecDepth 20000 in
theorem feats_any {w : World} {S : Nat → Prop} {g : Nat} {fs : List ByteArray} {L : List Nam} (h : InvM w S g fs L) : Calls Tryz.prog 173 #[wptr g] w fun e w' => ∃ v, e = .returned v ∧ w'.ownsRow w.heap.size 9 1 v fs.length (fs.map Value.string) ∧ Below w.heap.size w w' := by
  obtain ⟨A, c, A2, c2, b1, b2, b3, f2, f3, h1, hr, -, -, -⟩ := h.parts
  have c0 := h1.cell 0
  simp only [List.getElem?_toArray, List.getElem?_cons_zero] at c0
  have hm := made_any h
  have hc := cloneS_any A fs.length c _ w w.heap.size hr (strC_one fs) (Nat.le_refl _) (by have := h.ok.f24; omega)
  have HM := Lib.hid hm; have HC := Lib.hid hc
  clear h1 h hr hm hc
  go_enter Tryz.func173, Tryz.ntmps173
  go_wp2_with (go_at_call 208; refine HM.out.mono ?_; rintro e w' ⟨rfl, rfl⟩)
  refine HC.out.mono ?_
  rintro e w1 ⟨v, rfl, ho, hb⟩
  have HO := Lib.hid ho; have HB := Lib.hid hb
  clear ho hb
  go_wp2
  go_ret
  exact ⟨_, rfl, HO.out, HB.out⟩
end Go.Proofs.YtmepaeahchiglaaGreatDoor
namespace Go.Proofs.YtmepaeahchiglaaGreatDoor
open Go.RowKit Go.Lib

end Go.Proofs.YtmepaeahchiglaaGreatDoor
namespace Go.Proofs.YtmepaeahchiglaaGreatDoor
open Go.RowKit Go.Lib

theorem small_kind : KindOf 207 smallC := ⟨enters_of Tryz.func207 (by kernel_rfl) rfl, small_any⟩
/-- Blocks that were made by a call. -/
abbrev NewB4 (w w' : World) : Nat → Prop := fun b => w.heap.size ≤ b ∧ b < w'.heap.size
def NewIPost (w : World) (fs : List ByteArray) (e : Ending) (w' : World) : Prop :=
  Below w.heap.size w w' ∧ ((newE fs = 0 ∧ ∃ g, e = .returned (.tuple #[wptr g, .int .i64 0]) ∧ InvM w' (NewB4 w w') g fs []) ∨ (newE fs ≠ 0 ∧ e = .returned (.tuple #[.pointer none, .int .i64 (newE fs)])))
theorem newI_no {w w' : World} {fs : List ByteArray} (x : Int) (hb : Below w.heap.size w w') (h : newE fs = x) (hx : x ≠ 0) : NewIPost w fs (.returned (.tuple #[.pointer none, .int .i64 x])) w' :=
  ⟨hb, .inr ⟨by rw [h]; exact hx, by rw [h]⟩⟩
theorem okFeat_take {fs : List ByteArray} {k : Nat} (hk : k < fs.length) (h : okFeat fs[k] = false) : fs.all okFeat = false := by
  cases ha : fs.all okFeat with
  | false => rfl
  | true => rw [List.all_eq_true.1 ha _ (List.getElem_mem hk)] at h; cases h
theorem wf64 {n : Nat} (h : n < 9223372036854775808) : (Lit.int .i64 (n : Int)).wf = true := by
  have h1 : IntKind.i64.min = -9223372036854775808 := rfl
  have h2 : IntKind.i64.max = 9223372036854775807 := rfl
  simp only [Lit.wf, Bool.and_eq_true, decide_eq_true_eq, h1, h2]
  omega
theorem bs_inj {a b : ByteArray} (h : bs a = bs b) : a = b := str_eq h
theorem nodup_take {fs : List ByteArray} {k : Nat} (hk : k < fs.length) (hn : ((fs.take k).map bs).Nodup) : ((fs.take (k + 1)).map bs).Nodup ↔ ((fs.take k).any fun t => decide (bs t = bs fs[k])) = false := by
  rw [List.take_succ_eq_append_getElem hk, List.map_append, List.nodup_append]
  simp only [List.map_cons, List.map_nil, List.mem_map, List.mem_singleton, List.any_eq_false, decide_eq_true_eq]
  constructor
  · rintro ⟨_, _, h⟩ t ht e
    exact h (bs t) ⟨t, ht, rfl⟩ (bs fs[k]) rfl e
  · intro h
    refine ⟨hn, by simp, ?_⟩
    rintro _ ⟨t, ht, rfl⟩ _ rfl e
    exact h t ht e
set_option maxRecDepth 20000 in
set_option maxHeartbeats 4000000 in
theorem newI_any (A : Option Addr) (n c B : Nat) (fs : List ByteArray) (w : World) (hr : ReadS w B A n fs) (hB : B ≤ w.heap.size) (hn : n ≤ c) (hs : ∀ s ∈ fs, s.size ≤ maxLen) :
    Calls Tryz.prog 170 #[.slice A n c] w (NewIPost w fs) := by
  have hfl := hr.len
  subst hfl
  by_cases h24 : 24 < fs.length
  · have h24I : (24 : Int) < (fs.length : Int) := by omega
    have hE : newE fs = 12 := by unfold newE; rw [if_pos h24]
    have HE := Lib.hid hE
    clear hr hs h24 hE
    go_enter Tryz.func170, Tryz.ntmps170
    go_wp2
    go_ret2
    exact newI_no 12 (Below.refl _ _) HE.out (by decide)
  have h24I : ¬ (24 : Int) < (fs.length : Int) := by omega
  have hb0 := ((((Below.refl w.heap.size w).alloc (Nat.le_refl _) (.map #[] 0)).alloc (by simp) (.map #[] 0)).alloc (by simp; omega) (.map #[] 0)).alloc (by simp; omega) (.cells #[.slice none 0 0, .map (some w.heap.size), .slice none 0 0, .map (some (w.heap.size + 1)), .map (some (w.heap.size + 1 + 1))] 265)
  have hm1 := (((MapSI.made w).kept (World.grownBy_alloc _ (.map #[] 0) none) (by simp)).kept (World.grownBy_alloc _ (.map #[] 0) none) (by simp)).kept (World.grownBy_alloc _ (.cells #[.slice none 0 0, .map (some w.heap.size), .slice none 0 0, .map (some (w.heap.size + 1)), .map (some (w.heap.size + 1 + 1))] 265) none) (by simp)
  have hm2 := ((MapSI.made (w.alloc (.map #[] 0))).kept (World.grownBy_alloc _ (.map #[] 0) none) (by simp)).kept (World.grownBy_alloc _ (.cells #[.slice none 0 0, .map (some w.heap.size), .slice none 0 0, .map (some (w.heap.size + 1)), .map (some (w.heap.size + 1 + 1))] 265) none) (by simp)
  have hm3 := (MapKI.made ((w.alloc (.map #[] 0)).alloc (.map #[] 0))).kept (World.grownBy_alloc _ (.cells #[.slice none 0 0, .map (some w.heap.size), .slice none 0 0, .map (some (w.heap.size + 1)), .map (some (w.heap.size + 1 + 1))] 265) none) (by simp)
  have hg := Blk.new (((w.alloc (.map #[] 0)).alloc (.map #[] 0)).alloc (.map #[] 0)) 265 #[.slice none 0 0, .map (some w.heap.size), .slice none 0 0, .map (some (w.heap.size + 1)), .map (some (w.heap.size + 1 + 1))]
  simp only [World.size_alloc] at hm2 hm3 hg
  obtain ⟨W0, hW0⟩ : ∃ W, (((w.alloc (.map #[] 0)).alloc (.map #[] 0)).alloc (.map #[] 0)).alloc (.cells #[.slice none 0 0, .map (some w.heap.size), .slice none 0 0, .map (some (w.heap.size + 1)), .map (some (w.heap.size + 1 + 1))] 265) = W := ⟨_, rfl⟩
  have hsz0 : W0.heap.size = w.heap.size + 4 := by rw [← hW0]; simp
  rw [hW0] at hb0 hm1 hm2 hm3 hg
  have hr0 : ReadS W0 B A fs.length fs := Reads.below hr (hb0.mono hB)
  have HW0 := Lib.hid hW0; have HB0 := Lib.hid hb0; have HM1 := Lib.hid hm1; have HM2 := Lib.hid hm2; have HM3 := Lib.hid hm3; have HG := Lib.hid hg; have HR0 := Lib.hid hr0; have HS := Lib.hid hs
  have hE : fs.all okFeat = false → newE fs = 15 := fun h => by unfold newE; rw [if_neg h24, h]; rfl
  have HE := Lib.hid hE
  clear hr hs hW0 hb0 hm1 hm2 hm3 hg hr0 hE
  have hmm := @run_makeMap Tryz.prog
  go_enter Tryz.func170, Tryz.ntmps170
  go_wp2
  rw [HW0.out]
  clear HW0
  go_loop [21] (fun i => ∃ k : Nat, k ≤ fs.length ∧ i = .int .i64 k ∧ (fs.take k).all okFeat = true) (fun i => fs.length - (RowKit.intOf i).toNat)
  case atStart => exact ⟨0, by omega, rfl, rfl⟩
  case round =>
    obtain ⟨k, hk, rfl, hall⟩ := hrel
    have HALL := Lib.hid hall
    clear hall
    by_cases hlt : k < fs.length
    · have hkI : (k : Int) < (fs.length : Int) := by omega
      obtain ⟨ad, rfl, had, hcell⟩ := HR0.out.at_ hlt
      have hcs := consists_any _ _ 16 fs[k] W0 small_kind (HS.out _ (List.getElem_mem hlt))
      have hst := all_take_next okFeat fs k hlt
      have hno := fun h => HE.out (okFeat_take hlt h)
      have hok : okFeat fs[k] = (consC smallC 16 fs[k] && decide (57 < ((bs fs[k]).headD 0).toNat)) := rfl
      generalize fs[k] = s at *
      have HST := Lib.hid hst; have HNO := Lib.hid hno; have HCS := Lib.hid hcs
      clear hst hno hcs
      cases hcc : consC smallC 16 s with
      | false =>
        rw [hcc] at hok HCS
        have HOK := Lib.hid hok
        clear hok hcc
        go_wp2_with (go_at_call 206; refine HCS.out.mono ?_; rintro e w' ⟨rfl, rfl⟩)
        go_ret2
        have hE := HNO.out (by rw [HOK.out]; rfl)
        exact newI_no 15 HB0.out hE (by decide)
      | true =>
        have hs1 : 0 < s.size := by
          unfold consC at hcc
          simp only [Bool.and_eq_true, decide_eq_true_eq] at hcc
          omega
        have hhead : ((bs s).headD 0).toNat = (s[0]).toNat := by
          have hl : 0 < (bs s).length := by rw [size_bs]; exact hs1
          have e : (bs s).headD 0 = (bs s)[0] := by
            rw [List.headD_eq_head?_getD, List.head?_eq_getElem?, List.getElem?_eq_getElem hl]; rfl
          rw [e]; rfl
        rw [hcc, hhead] at hok
        rw [hcc] at HCS
        obtain ⟨b, hb⟩ : ∃ b, s[0].toNat = b := ⟨_, rfl⟩
        have hbI : ((s[0].toNat : Nat) : Int) = (b : Int) := by rw [hb]
        rw [hb] at hok
        have HOK := Lib.hid hok
        clear hok hcc hhead hb
        by_cases hb57 : b ≤ 57
        · have hbb : (b : Int) ≤ 57 := by omega
          go_wp2_with (go_at_call 206; refine HCS.out.mono ?_; rintro e w' ⟨rfl, rfl⟩)
          go_ret2
          have hE := HNO.out (by rw [HOK.out, decide_eq_false (show ¬ 57 < b by omega)]; rfl)
          exact newI_no 15 HB0.out hE (by decide)
        · have hbb : ¬ (b : Int) ≤ 57 := by omega
          go_wp2_with (go_at_call 206; refine HCS.out.mono ?_; rintro e w' ⟨rfl, rfl⟩)
          go_round
          case rel => exact ⟨k + 1, by omega, by go_num, by rw [HST.out, HALL.out, HOK.out, decide_eq_true (show 57 < b by omega)]; rfl⟩
          case measure => simp [RowKit.intOf]; omega
    · obtain rfl : k = fs.length := by omega
      have hall : fs.all okFeat = true := by have := HALL.out; rwa [List.take_length] at this
      have hE6 : ¬ (fs.map bs).Nodup → newE fs = 6 := fun h => by unfold newE; rw [if_neg h24, hall, if_pos rfl, if_neg h]
      have hE0 : (fs.map bs).Nodup → newE fs = 0 := fun h => by unfold newE; rw [if_neg h24, hall, if_pos rfl, if_pos h]
      have h16 : ∀ s ∈ fs, s.size ≤ 16 := fun s hs => by
        have := List.all_eq_true.1 hall s hs
        unfold okFeat consC at this
        simp only [Bool.and_eq_true, decide_eq_true_eq] at this
        omega
      have HE6 := Lib.hid hE6; have HE0 := Lib.hid hE0; have H16 := Lib.hid h16
      clear hall hE6 hE0 h16 HE HALL hlt
      go_wp2
      go_loopw [36] (fun i wr => ∃ (k : Nat) (f : ByteArray → Option Int), k ≤ fs.length ∧ i = .int .i64 k ∧ ((fs.take k).map bs).Nodup ∧ MapSI wr w.heap.size k f ∧ (∀ t, (f t).isSome = (fs.take k).any fun x => decide (bs x = bs t)) ∧ ChgS (fun b => b = w.heap.size) W0 wr) (fun i _ => fs.length - (RowKit.intOf i).toNat)
      case atStart => exact ⟨0, _, by omega, rfl, List.nodup_nil, HM1.out, fun t => rfl, ChgS.refl _ _⟩
      case round =>
        obtain ⟨k, f, hk, rfl, hnd, hmap, hf, hch⟩ := hrel
        have hsz := hch.size
        have hgr := HG.out.chgS hch (by omega)
        have g1 := hgr.cell 1
        simp only [List.getElem?_toArray, List.getElem?_cons_zero, List.getElem?_cons_succ] at g1
        have hrw : ReadS wr B A fs.length fs := Reads.keep HR0.out (fun q hq => World.cell?_of_block (hch.block q.block (by omega) (by omega)))
        have HND := Lib.hid hnd; have HMAP := Lib.hid hmap; have HF := Lib.hid hf; have HCH := Lib.hid hch; have HGR := Lib.hid hgr; have HRW := Lib.hid hrw
        clear hnd hmap hf hch hgr hrw
        by_cases hlt : k < fs.length
        · have hkI : (k : Int) < (fs.length : Int) := by omega
          obtain ⟨ad, rfl, had, hcell⟩ := HRW.out.at_ hlt
          have hsz16 := H16.out _ (List.getElem_mem hlt)
          have hlook := HMAP.out.look fs[k] (by unfold maxLen; omega)
          have hfk := HF.out fs[k]
          have hnt := nodup_take hlt HND.out
          have htk : ∀ t, ((fs.take (k + 1)).any fun x => decide (bs x = bs t)) = (((fs.take k).any fun x => decide (bs x = bs t)) || decide (bs fs[k] = bs t)) := fun t => by
            rw [List.take_succ_eq_append_getElem hlt, List.any_append]; simp
          have hnn : ¬ ((fs.take (k + 1)).map bs).Nodup → ¬ (fs.map bs).Nodup := fun h h' => h (h'.sublist ((List.take_sublist _ _).map bs))
          generalize fs[k] = s at *
          cases hfs : f s with
          | some i =>
            rw [hfs] at hfk hlook
            simp only [Option.getD_some, Option.isSome_some] at hlook hfk
            have hE := HE6.out (hnn (fun h => by rw [hnt] at h; rw [← hfk] at h; cases h))
            have hfin : NewIPost w fs (.returned (.tuple #[.pointer none, .int .i64 6])) wr := ⟨HB0.out.trans (HCH.out.below (fun i hi => by omega) (by omega)), .inr ⟨by rw [hE]; decide, by rw [hE]⟩⟩
            have HFIN := Lib.hid hfin
            clear hfk hnt htk hnn hE hfs hfin
            go_wp2
            go_ret2
            exact HFIN.out
          | none =>
            rw [hfs] at hfk hlook
            simp only [Option.getD_none, Option.isSome_none] at hlook hfk
            have HNT := Lib.hid (hnt.2 hfk.symm); have HTK := Lib.hid htk
            clear hfk hnt htk hnn hfs
            go_wp2_with (refine wpList_putSI rfl _ _ _ rfl _ _ _ rfl HMAP.out (by unfold maxLen; omega) s (by unfold maxLen; omega) (k : Int) (wf64 (by omega)) rfl rfl ?_; intro w1 hmap1 hgrow1)
            go_roundw
            case rel => exact ⟨k + 1, _, by omega, by go_num, HNT.out, hmap1, fun t => by
              rw [HTK.out t]
              by_cases e : t = s
              · subst e; simp
              · rw [if_neg e, HF.out t, decide_eq_false (show ¬ bs s = bs t from fun h => e (bs_inj h.symm))]; simp, HCH.out.grown hgrow1 (fun j hj => by injection hj with hj; exact .inl hj.symm)⟩
            case measure => simp [RowKit.intOf]; omega
        · obtain rfl : k = fs.length := by omega
          have hE := HE0.out (by have := HND.out; rwa [List.take_length] at this)
          have hcl := cloneS_any A fs.length c _ wr B HRW.out (strC_one fs) (by omega) (by omega)
          have HEE := Lib.hid hE; have HCL := Lib.hid hcl
          clear hE hcl HE6 HE0 hlt
          go_wp2_with fail
          refine HCL.out.mono ?_
          rintro e w1 ⟨v1, rfl, ho1, hb1⟩
          obtain ⟨A1, c1, rfl, -, -⟩ := ownsRow_form ho1
          have hg1 := HGR.out.below hb1 (by omega)
          have k0 := hg1.cell 0
          have fr0 := hg1.frozen 0
          simp only [List.getElem?_toArray, List.getElem?_cons_zero] at k0
          have hsz1 := hb1.size
          have hcs := (ChgS.refl (fun b => b = w.heap.size + 1 + 1 + 1) w1).setCell (p := ⟨w.heap.size + 1 + 1 + 1, 0, none⟩) (.inl rfl) (.slice A1 fs.length c1)
          have hszs := hcs.size
          have hc1' := (ChgS.of_below (S := fun _ => False) hb1)
          have hfin : NewIPost w fs (.returned (.tuple #[wptr (w.heap.size + 1 + 1 + 1), .int .i64 0])) (w1.setCell ⟨w.heap.size + 1 + 1 + 1, 0, none⟩ (.slice A1 fs.length c1)) := by
            refine ⟨(HB0.out.trans (HCH.out.below (fun i hi => by omega) (by omega))).trans ((hb1.mono (by omega)).trans (hcs.below (fun i hi => by omega) (by omega))), .inl ⟨HEE.out, _, rfl, ?_⟩⟩
            refine ⟨A1, c1, .slice none 0 0, w.heap.size, w.heap.size + 1, w.heap.size + 1 + 1, f, _, _, ⟨by simpa using hg1.set_ 0 (.slice A1 fs.length c1), by omega, by omega⟩, ⟨own_mono (own_chgS ho1 hcs (fun k hk e => by have := (ho1.lt k hk).1; omega)) (Nat.zero_le _), (fun b hb => by have := ho1.lt b hb; exact ⟨by omega, by omega⟩)⟩, ⟨World.ownsRow_nil _ _ _ _, fun b hb => by cases hb⟩, ⟨(HMAP.out.below hb1).chgS hcs (by omega), by omega, by omega⟩, ⟨((HM2.out.chgS HCH.out (by omega)).chgS hc1' (fun h => h)).chgS hcs (by omega), ⟨by omega, by omega⟩, fun s => ⟨rfl, fun i hi => by cases hi⟩⟩, ⟨((HM3.out.chgS HCH.out (by omega)).chgS hc1' (fun h => h)).chgS hcs (by omega), ⟨by omega, by omega⟩, fun s => rfl⟩, ⟨by omega, by omega, by omega⟩, ⟨by omega, H16.out, by simp, (fun x hx => by cases hx), List.nodup_nil⟩⟩
          have HFIN := Lib.hid hfin
          clear ho1 hb1 hg1 hcs hc1' hfin
          go_wp2
          go_ret2
          exact HFIN.out
end Go.Proofs.YtmepaeahchiglaaGreatDoor
