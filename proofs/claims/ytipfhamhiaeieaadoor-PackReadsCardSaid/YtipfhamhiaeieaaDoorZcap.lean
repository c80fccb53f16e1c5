/-
  layer 43: Clone of bytes; a cell of an own row set. Conditions: at most 100,000 bytes.
-/
import Derived.Test.YtipfhamhiaeieaaDoorZcPkWl
namespace Go.Proofs.YtipfhamhiaeieaaDoor
open Go.RowKit Go.Lib

theorem own_empty0 (w : World) (t : TypeId) : (w.alloc (.cells #[] t)).ownsRow w.heap.size t 1 (.slice (some ⟨w.heap.size, 0, none⟩) 0 0) 0 [] :=
  ⟨rfl, .inr ⟨w.heap.size, 0, #[], rfl, Nat.le_refl _, heap_alloc_new w _, by omega, by omega, by simp, by simp⟩⟩
theorem own_set {w : World} {base q n c k : Nat} {e : TypeId} {xs : List Value} (h : w.ownsRow base e 1 (.slice (some ⟨q, 0, none⟩) n c) n xs) (u : Value) : (w.setCell ⟨q, k, none⟩ u).ownsRow base e 1 (.slice (some ⟨q, 0, none⟩) n c) n (xs.set k u) := by
  rcases h.2 with ⟨h', _⟩ | ⟨q', cap, cur, h', hb, hg, h3, h4, hs, ht⟩
  · simp at h'
  · simp only [Value.slice.injEq, Option.some.injEq, Addr.mk.injEq, and_true, true_and] at h'
    obtain ⟨rfl, rfl⟩ := h'
    refine ⟨by simpa using h.1, .inr ⟨q, c, cur.setIfInBounds k u, rfl, hb, Blk.set_ hg k u, h3, h4, by simpa using hs, ?_⟩⟩
    rw [Array.toList_setIfInBounds, Nat.mul_one, List.take_set]
    rw [Nat.mul_one] at ht; rw [ht]
set_option maxRecDepth 20000 in
set_option maxHeartbeats 1000000 in
theorem cloneB_any (A : Option Addr) (n c : Nat) (xs : List Value) (w : World) (K : Nat) (hr : Reads w K 1 A n xs) (h1 : ∀ u ∈ xs, u.oneCell' = true) (hK : K ≤ w.heap.size) (hn : n ≤ 100000) :
    Calls Tryd.prog 21 #[.slice A n c] w fun e w' => ∃ v, e = .returned v ∧ w'.ownsRow w.heap.size 5 1 v n xs ∧ Below w.heap.size w w' := by
  obtain ⟨i0, hi, hz0, hz1, hz2⟩ := info_parts (show (Tryd.prog.info? 5).map (fun i => (i.zero, i.size, i.bytes)) = some (some (.int .u8 0), 1, 1) by kernel_rfl)
  have hl := hr.1
  have hnil := fun (W : World) (a : Option Addr) (n c : Nat) => Lib.run_eql_slice_nil (P := Tryd.prog) W 35 5 a n c 0 0 Tryd.underlying35
  rcases A with _ | ad
  · have h0 : n = 0 := by
      rcases Nat.eq_zero_or_pos n with h | h
      · exact h
      · obtain ⟨_, h', _⟩ := hr.2 h; cases h'
    subst h0
    obtain rfl : xs = [] := List.eq_nil_of_length_eq_zero (by omega)
    go_enter Tryd.func21, Tryd.ntmps21
    go_wp2
    go_ret
    exact ⟨_, rfl, World.ownsRow_nil _ _ _ _, Below.refl _ _⟩
  · have hown := own_empty0 w 5
    have hr' := (hr.more hK).alloc (Nat.le_refl _) (.cells #[] 5)
    go_enter Tryd.func21, Tryd.ntmps21
    go_wp2_with (at_builtin; refine wpList_append_any _ rfl _ _ _ rfl w.heap.size 5 i0 (.int .u8 0) 1 1 Tryd.underlying35 hi hz0 hz1 hz2 rfl (by decide) _ _ _ rfl hown w.heap.size _ _ _ xs rfl hr' h1 (by unfold maxLen; omega) (by omega) (by simp) ?_; intro v' w1 hown' hgrow _)
    have hb1 : Below w.heap.size w w1 := ((Below.refl _ w).alloc (Nat.le_refl _) _).grown hgrow (by simp) (fun g hg => (hown.lt g hg).1)
    clear hgrow
    go_ret
    exact ⟨_, rfl, by simpa using hown', hb1⟩
end Go.Proofs.YtipfhamhiaeieaaDoor
namespace Go.Proofs.YtipfhamhiaeieaaDoor
open Go.RowKit Go.Lib

theorem putW_back {ws : List Snd} (hok : ∀ s ∈ ws, ok32 s) (h0 : wordE ws = 0) (r : List Nat) : getW (putW ws ++ r) = (ws, (putW ws).length, 0) := by
  have hl := wordE_len h0
  have hb := back_word ws r ⟨by unfold is32; omega, hok⟩
  unfold getW putW
  rw [if_pos h0, hb]
  simp only [if_pos h0, List.length_append]
  rw [Nat.add_sub_cancel]
theorem putW_part {ws : List Snd} (hok : ∀ s ∈ ws, ok32 s) (h0 : wordE ws = 0) {i : Nat} (hi : i < (putW ws).length) : getW ((putW ws).take i) = ([], 0, 10) := by
  have hl := wordE_len h0
  unfold putW at hi ⊢
  rw [if_pos h0] at hi ⊢
  have hp := part_word ws i ⟨by unfold is32; omega, hok⟩ hi
  unfold getW
  rw [hp]
set_option maxRecDepth 20000 in
set_option maxHeartbeats 1000000 in
theorem sEqual_any (A A' : Option Addr) (n n' c c' B : Nat) (a b : List Snd) (w : World) (ha : Reads w B 2 A n (a.flatMap sndC)) (hb : Reads w B 2 A' n' (b.flatMap sndC)) (hB : B ≤ w.heap.size) (hn : n ≤ maxLen) :
    Calls Tryd.prog 44 #[.slice A n c, .slice A' n' c'] w fun e w' => e = .returned (.bool (decide (a = b))) ∧ w.heap = w'.heap ∧ Below w.heap.size w w' := by
  unfold maxLen at hn
  have hal := ha.len_of (fun _ => rfl) (by decide)
  have hbl := hb.len_of (fun _ => rfl) (by decide)
  obtain ⟨r, hr⟩ : ∃ r, decide (a = b) = r := ⟨_, rfl⟩
  rw [hr]
  have HA := Lib.hid ha; have HB := Lib.hid hb; have HAL := Lib.hid hal; have HBL := Lib.hid hbl; have HR := Lib.hid hr
  clear ha hb hal hbl hr
  by_cases hnn : n = n'
  · subst hnn
    go_enter Tryd.func44, Tryd.ntmps44
    go_wp2
    go_loopw [13] (fun i wr => ∃ k : Nat, k ≤ n ∧ i = .int .i64 k ∧ a.take k = b.take k ∧ w.heap = wr.heap ∧ Below w.heap.size w wr) (fun i _ => n - (RowKit.intOf i).toNat)
    case atStart => exact ⟨0, by omega, rfl, rfl, rfl, Below.refl _ _⟩
    case round =>
      obtain ⟨k, hk, rfl, heq, hh, hbw⟩ := hrel
      have HEQ := Lib.hid heq; have HBW := Lib.hid hbw; have HH := Lib.hid hh
      clear heq hbw hh
      by_cases hlt : k < n
      · have hka : k < a.length := by rw [HAL.out]; exact hlt
        have hkb : k < b.length := by rw [HBL.out]; exact hlt
        have hkI : (k : Int) < (n : Int) := by omega
        obtain ⟨ad, rfl, had, hc0, hc1⟩ := snd_cells (HA.out.below (HBW.out.mono hB)) hka
        obtain ⟨ad', rfl, had', hc0', hc1'⟩ := snd_cells (HB.out.below (HBW.out.mono hB)) hkb
        have hT : a.take (k + 1) = b.take (k + 1) ↔ a[k] = b[k] := by
          have e1 := List.take_succ_eq_append_getElem hka
          have e2 := List.take_succ_eq_append_getElem hkb
          rw [e1, e2, HEQ.out]
          exact ⟨fun h => by have := List.append_cancel_left h; simpa using this, fun h => by rw [h]⟩
        have hne : a[k] ≠ b[k] → r = false := fun h => by
          rw [← HR.out, decide_eq_false]
          rintro rfl
          exact h rfl
        generalize a[k] = s at *
        generalize b[k] = t at *
        have HT := Lib.hid hT; have HN := Lib.hid hne
        clear hT hne
        by_cases h1 : s.1 = t.1
        · by_cases h2 : s.2 = t.2
          · have e1 : ((s.1 : Int) == (t.1 : Int)) = true := by rw [h1]; simp
            have e2 : ((s.2 : Int) == (t.2 : Int)) = true := by rw [h2]; simp
            have hst : s = t := Prod.ext h1 h2
            have HST := Lib.hid hst
            clear h1 h2 hst
            go_wp2
            go_region
            go_wp2
            go_roundw
            case rel => exact ⟨k + 1, by omega, by go_num, HT.out.2 HST.out, HH.out, HBW.out.drew⟩
            case measure => simp [RowKit.intOf]; omega
          · have e1 : ((s.1 : Int) == (t.1 : Int)) = true := by rw [h1]; simp
            have e2 : ((s.2 : Int) == (t.2 : Int)) = false := by rw [beq_eq_false_iff_ne]; omega
            have hr0 := HN.out (fun h => h2 (by rw [h]))
            subst hr0
            clear h1 h2
            go_wp2
            go_region
            go_wp2
            go_ret
            exact ⟨rfl, HH.out, HBW.out.drew⟩
        · have e1 : ((s.1 : Int) == (t.1 : Int)) = false := by rw [beq_eq_false_iff_ne]; omega
          have hr0 := HN.out (fun h => h1 (by rw [h]))
          subst hr0
          clear h1
          go_wp2
          go_region
          go_wp2
          go_ret
          exact ⟨rfl, HH.out, HBW.out.drew⟩
      · obtain rfl : k = n := by omega
        have hr1 : r = true := by
          rw [← HR.out, decide_eq_true_eq]
          have h := HEQ.out
          rw [List.take_of_length_le (by rw [HAL.out]; exact Nat.le_refl _), List.take_of_length_le (by rw [HBL.out]; exact Nat.le_refl _)] at h
          exact h
        subst hr1
        go_wp2
        go_ret
        exact ⟨rfl, HH.out, HBW.out⟩
  · have hr0 : r = false := by
      rw [← HR.out, decide_eq_false]
      rintro rfl
      exact hnn (HAL.out.symm.trans HBL.out)
    subst hr0
    have hnI : ((n : Int) != (n' : Int)) = true := by rw [bne_iff_ne]; omega
    go_enter Tryd.func44, Tryd.ntmps44
    go_wp2
    go_ret
    exact ⟨rfl, rfl, Below.refl _ _⟩
set_option maxRecDepth 20000 in
theorem wEqual_any (A A' : Option Addr) (n n' c c' B : Nat) (a b : List Snd) (w : World) (ha : Reads w B 2 A n (a.flatMap sndC)) (hb : Reads w B 2 A' n' (b.flatMap sndC)) (hB : B ≤ w.heap.size) (hn : n ≤ maxLen) :
    Calls Tryd.prog 24 #[.slice A n c, .slice A' n' c'] w fun e w' => e = .returned (.bool (decide (a = b))) ∧ Below w.heap.size w w' := by
  have hs := sEqual_any A A' n n' c c' B a b w ha hb hB hn
  clear ha hb hB hn
  go_enter Tryd.func24, Tryd.ntmps24
  go_wp2_with fail
  refine hs.mono ?_
  rintro e w1 ⟨rfl, _, hb⟩
  have HB := Lib.hid hb
  clear hb
  go_wp2
  go_ret
  exact ⟨rfl, HB.out⟩
end Go.Proofs.YtipfhamhiaeieaaDoor
namespace Go.Proofs.YtipfhamhiaeieaaDoor
open Go.RowKit Go.Lib

theorem numB_lt (n : Nat) : ∀ b ∈ numB n, b < 256 := numK_lt 5 n
theorem sndB_lt (s : Snd) : ∀ b ∈ sndB s, b < 256 := by
  intro b hb
  unfold sndB at hb
  rcases List.mem_append.1 hb with h | h <;> exact numB_lt _ b h
theorem putW_lt (ws : List Snd) : ∀ b ∈ putW ws, b < 256 := by
  intro b hb
  unfold putW at hb
  split at hb
  · unfold wordB allB at hb
    rcases List.mem_append.1 hb with h | h
    · exact numB_lt _ b h
    · obtain ⟨s, _, hs⟩ := List.mem_flatMap.1 h
      exact sndB_lt s b hs
  · cases hb
set_option maxRecDepth 20000 in
set_option maxHeartbeats 1000000 in
theorem packWords_law (A : Option Addr) (n c : Nat) (ws : List Snd) (w : World) (hr : Reads w w.heap.size 2 A n (ws.flatMap sndC)) (hok : ∀ s ∈ ws, ok32 s) (hn : n ≤ maxLen) :
    Calls Tryd.prog 4 #[.slice A n c] w fun e w' => e = .returned (.bool true) ∧ Below w.heap.size w w' := by
  have hp := putWord_any A n c _ ws w hr (Nat.le_refl _) hn hok
  have hq := fun (W : World) (hb : Below w.heap.size w W) => refPutWord_any A n c _ ws W (hr.below hb) hb.size hn hok
  have hlt := putW_lt ws
  have HWK := Lib.hid works_any
  generalize putW ws = bs at *
  generalize wordE ws = x at *
  have HP := Lib.hid hp; have HQ := Lib.hid hq; have HLT := Lib.hid hlt
  clear hr hok hp hq hlt
  unfold maxLen at hn
  by_cases hg : (100 : Int) < n
  · go_enter Tryd.func4, Tryd.ntmps4
    go_wp2_with fail
    refine (HWK.out _).mono ?_
    rintro e w1 ⟨rfl, hb⟩
    have HB := Lib.hid hb
    clear hb
    go_wp2
    go_ret
    exact ⟨rfl, HB.out⟩
  · go_enter Tryd.func4, Tryd.ntmps4
    go_wp2_with fail
    refine HP.out.mono ?_
    rintro e w1 ⟨v1, rfl, ho1, hb1⟩
    obtain ⟨A1, c1, rfl, hn1, hc1, hr1⟩ := own_reads ho1
    have HB1 := Lib.hid hb1; have HR1 := Lib.hid hr1
    clear hb1 hr1 ho1
    go_wp2_with fail
    refine (HQ.out _ HB1.out).mono ?_
    rintro e w2 ⟨v2, rfl, ho2, hb2⟩
    obtain ⟨A2, c2, rfl, hn2, hc2, hr2⟩ := own_reads ho2
    have hz := hb2.size
    have HR12 := Lib.hid ((HR1.out.below hb2).more hz)
    have HB2 := Lib.hid (HB1.out.trans (hb2.mono HB1.out.size)); have HR2 := Lib.hid hr2
    clear hb2 hr2 ho2 hz
    go_wp2_with fail
    refine (bytesEq_any A1 A2 _ _ c1 c2 _ bs bs _ HR12.out HR2.out HLT.out HLT.out).mono ?_
    rw [decide_eq_true rfl]
    rintro e w3 ⟨rfl, rfl⟩
    have hxx : (x == x) = true := by simp
    go_wp2_with fail
    refine (HWK.out _).mono ?_
    rintro e w4 ⟨rfl, hb⟩
    have HB := Lib.hid (HB2.out.trans (hb.mono HB2.out.size))
    clear hb
    go_wp2
    go_ret
    exact ⟨rfl, HB.out⟩
end Go.Proofs.YtipfhamhiaeieaaDoor
namespace Go.Proofs.YtipfhamhiaeieaaDoor
open Go.RowKit Go.Lib

theorem u8s_eq (xs : List UInt8) : (xs.map fun b => Value.int .u8 b.toNat) = (xs.map UInt8.toNat).map bv := by rw [List.map_map]; rfl
theorem u8s_one (xs : List UInt8) : ∀ u ∈ (xs.map fun b => Value.int .u8 (b.toNat : Int)), u.oneCell' = true := by
  intro u hu; obtain ⟨x, _, rfl⟩ := List.mem_map.1 hu; rfl
theorem putW_len {ws : List Snd} (h : wordE ws = 0) : (putW ws).length ≤ 1000 := by
  have hl := wordE_len h
  unfold putW
  rw [if_pos h]
  have key : ∀ n, (numB n).length ≤ 5 := numB_len
  have hs : ∀ l : List Snd, (l.flatMap sndB).length ≤ l.length * 10 := by
    intro l
    induction l with
    | nil => simp
    | cons s l ih =>
      have e : (sndB s).length ≤ 10 := by
        show (numB s.1 ++ numB s.2).length ≤ 10
        rw [List.length_append]; have := key s.1; have := key s.2; omega
      rw [List.flatMap_cons, List.length_append, List.length_cons]; omega
  show (numB ws.length ++ ws.flatMap sndB).length ≤ 1000
  rw [List.length_append]
  have := key ws.length; have := hs ws; omega
set_option maxRecDepth 20000 in
set_option maxHeartbeats 4000000 in
theorem packWordBack_law (A A' : Option Addr) (n c m d : Nat) (ws : List Snd) (xs : List UInt8) (w : World) (hr : Reads w w.heap.size 2 A n (ws.flatMap sndC)) (hok : ∀ s ∈ ws, ok32 s) (hn : n ≤ maxLen) (hx : ReadB w w.heap.size A' m xs) (hm : m ≤ maxLen) :
    Calls Tryd.prog 7 #[.slice A n c, .slice A' m d] w fun e w' => e = .returned (.bool true) ∧ Below w.heap.size w w' := by
  obtain ⟨i0, hi, hz0, hz1, hz2⟩ := info_parts (show (Tryd.prog.info? 5).map (fun i => (i.zero, i.size, i.bytes)) = some (some (.int .u8 0), 1, 1) by kernel_rfl)
  have hp := putWord_any A n c _ ws w hr (Nat.le_refl _) hn hok
  have hq := fun (W : World) (hb : Below w.heap.size w W) => wordCheck_any A n c _ ws W (hr.below hb) hb.size hn hok
  have hlt := putW_lt ws
  have HWK := Lib.hid works_any
  have hno : wordE ws ≠ 0 → putW ws = [] := fun h => if_neg h
  have hlen := putW_len (ws := ws)
  have hback := fun h r => putW_back (ws := ws) hok h r
  have hpart := fun h i hi => putW_part (ws := ws) hok h (i := i) hi
  have hm256 : ∀ b ∈ xs.map UInt8.toNat, b < 256 := fun c hc => by obtain ⟨x, _, rfl⟩ := List.mem_map.1 hc; exact x.toNat_lt
  replace hx : Reads w w.heap.size 1 A' m ((xs.map UInt8.toNat).map bv) := by rw [← u8s_eq]; exact hx
  generalize xs.map UInt8.toNat = ms at *
  have HMS := Lib.hid hm256
  obtain ⟨bs, hbs⟩ : ∃ bs, putW ws = bs := ⟨_, rfl⟩
  obtain ⟨x, hx0⟩ : ∃ x, wordE ws = x := ⟨_, rfl⟩
  rw [hbs, hx0] at hp
  simp only [hx0] at hq
  rw [hbs] at hlt
  rw [hbs, hx0] at hno hlen
  simp only [hbs, hx0] at hback hpart
  have HP := Lib.hid hp; have HQ := Lib.hid hq; have HLT := Lib.hid hlt; have HNO := Lib.hid hno; have HLEN := Lib.hid hlen; have HBACK := Lib.hid hback; have HPART := Lib.hid hpart; have HX := Lib.hid hx; have HR := Lib.hid hr
  clear hm256 hr hok hp hq hlt hno hlen hback hpart hx hbs hx0
  unfold maxLen at hn hm
  by_cases hg : (100 : Int) < n
  · go_enter Tryd.func7, Tryd.ntmps7
    go_wp2_with fail
    refine (HWK.out _).mono ?_
    rintro e w1 ⟨rfl, hb⟩
    have HB := Lib.hid hb
    clear hb
    go_wp2
    go_ret
    exact ⟨rfl, HB.out⟩
  by_cases hg2 : (100 : Int) < m
  · go_enter Tryd.func7, Tryd.ntmps7
    go_wp2_with fail
    refine (HWK.out _).mono ?_
    rintro e w1 ⟨rfl, hb⟩
    have HB := Lib.hid hb
    clear hb
    go_wp2
    go_ret
    exact ⟨rfl, HB.out⟩
  go_enter Tryd.func7, Tryd.ntmps7
  go_wp2_with fail
  refine HP.out.mono ?_
  rintro e w1 ⟨v1, rfl, ho1, hb1⟩
  obtain ⟨A1, c1, rfl, hn1, hc1, hr1⟩ := own_reads ho1
  have HB1 := Lib.hid hb1; have HR1 := Lib.hid hr1
  clear hb1 hr1 ho1
  go_wp2_with fail
  refine (HQ.out _ HB1.out).mono ?_
  rintro e w2 ⟨rfl, hb2⟩
  have hxx : (x != x) = false := by simp
  have hz := hb2.size
  have HR2 := Lib.hid ((HR1.out.below hb2).more hz)
  have HB2 := Lib.hid (HB1.out.trans (hb2.mono HB1.out.size))
  clear hb2 hz HP HQ HR1
  by_cases h0 : x = 0
  case neg =>
    have hnil := HNO.out h0
    subst hnil
    have hx0 : (x != 0) = true := by simpa using h0
    go_wp2_with fail
    refine (HWK.out _).mono ?_
    rintro e w3 ⟨rfl, hb⟩
    have HB := Lib.hid (HB2.out.trans (hb.mono HB2.out.size))
    clear hb
    go_wp2
    go_ret
    exact ⟨rfl, HB.out⟩
  subst h0
  have hL := HLEN.out rfl
  have HBK := Lib.hid (HBACK.out rfl)
  have HPT := Lib.hid (HPART.out rfl)
  clear HBACK HPART HLEN HNO
  go_wp2_with fail
  refine (cloneB_any A1 _ c1 _ w2 _ HR2.out (bv_one bs) (Nat.le_refl _) (by omega)).mono ?_
  rintro e w3 ⟨v3, rfl, ho3, hb3⟩
  obtain ⟨A3, c3, rfl, hn3, hc3⟩ := ownsRow_form ho3
  have hz := hb3.size
  have HB3 := Lib.hid (HB2.out.trans (hb3.mono HB2.out.size)); have HR3 := Lib.hid ((HR2.out.below hb3).more hz)
  have HO3 := Lib.hid ho3; have HZ3 := Lib.hid (show w.heap.size ≤ w2.heap.size from HB2.out.size); have HW3 := Lib.hid (show w2.heap.size ≤ w3.heap.size from hz)
  have HBC := Lib.hid hb3
  clear ho3 hb3 hz
  go_wp2_with (at_builtin; refine wpList_append_any _ rfl _ _ _ rfl w2.heap.size 5 i0 (.int .u8 0) 1 1 Tryd.underlying35 hi hz0 hz1 hz2 rfl (by decide) _ _ _ rfl HO3.out w.heap.size _ _ _ (ms.map bv) rfl (Reads.below HX.out HB3.out) (bv_one ms) (by unfold maxLen; omega) (by omega) (by have := HB3.out.size; have := HW3.out; omega) ?_; intro v4 w4 hown4 hgrow4 _; have HBD := Lib.hid (HBC.out.grown hgrow4 HW3.out (fun g hg => (HO3.out.lt g hg).1)); have HO4 := Lib.hid hown4; obtain ⟨A4, c4, rfl, hn4, hc4⟩ := ownsRow_form hown4; clear hown4 hgrow4)
  have hr4 := Reads.of_own HO4.out
  rw [← List.map_append] at hr4
  have hget := getWord_any w4 A4 _ c4 _ (bs ++ ms) hr4 (Nat.le_refl _) hn4 hc4 (by omega) (fun b hb => by
    rcases List.mem_append.1 hb with h | h
    · exact HLT.out b h
    · exact HMS.out b h)
  rw [HBK.out] at hget
  have HB4 := Lib.hid (HB2.out.trans (HBD.out.mono HZ3.out)); have HR4 := Lib.hid ((HR2.out.below HBD.out).more HBD.out.size)
  clear hr4 HO4 HO3 HR3 HR2 HB3 HB2
  refine hget.mono ?_
  clear hget
  rintro e w5 ⟨v5, rfl, ho5, hb5⟩
  obtain ⟨A5, c5, rfl, hn5, hc5, hr5⟩ := own_reads ho5
  have hz5 := hb5.size
  have HB5 := Lib.hid (HB4.out.trans (hb5.mono HB4.out.size)); have HR5 := Lib.hid ((HR4.out.below hb5).more hz5); have HV5 := Lib.hid hr5
  clear ho5 hb5 hr5 hz5 HR4 HB4
  have hll : (((bs.length : Nat) : Int) != (bs.length : Nat)) = false := by simp
  go_wp2_with fail
  refine (wEqual_any A5 A _ n c5 c w5.heap.size ws ws w5 HV5.out ((HR.out.below HB5.out).more HB5.out.size) (Nat.le_refl _) (by unfold maxLen at hc5 ⊢; omega)).mono ?_
  rw [decide_eq_true rfl]
  rintro e w6 ⟨rfl, hb6⟩
  have hz6 := hb6.size
  have HB6 := Lib.hid (HB5.out.trans (hb6.mono HB5.out.size)); have HR6 := Lib.hid ((HR5.out.below hb6).more hz6)
  clear hb6 hz6 HR5 HB5 HV5
  go_wp2_with fail
  go_loopw [65] (fun i wr => ∃ k : Nat, k ≤ bs.length ∧ i = .int .i64 k ∧ Below w6.heap.size w6 wr) (fun i _ => bs.length - (RowKit.intOf i).toNat)
  case atStart => exact ⟨0, by omega, rfl, Below.refl _ _⟩
  case round =>
    obtain ⟨k, hk, rfl, hbw⟩ := hrel
    have HBW := Lib.hid hbw
    clear hbw
    by_cases hlt : k < bs.length
    · have hkI : (k : Int) < (bs.length : Int) := by omega
      have hkc : (k : Int) ≤ (c1 : Int) := by omega
      have hpre := Reads.pre (m := k) (HR6.out.below HBW.out) (by omega)
      obtain ⟨ad, rfl, had, _⟩ := HR6.out.2 (by omega)
      rw [Nat.mul_one, ← List.map_take] at hpre
      have HPRE := Lib.hid hpre
      clear hpre
      go_wp2_with fail
      have hget := getWord_any wr (some ad) k c1 w6.heap.size (bs.take k) HPRE.out HBW.out.size (by omega) hc1 (by omega) (fun b hb => HLT.out b (List.mem_of_mem_take hb))
      rw [HPT.out k hlt] at hget
      refine hget.mono ?_
      clear hget
      rintro e w7 ⟨v7, rfl, ho7, hb7⟩
      have HB7 := Lib.hid (HBW.out.trans (hb7.mono HBW.out.size))
      clear ho7 hb7
      go_wp2
      go_roundw
      case rel => exact ⟨k + 1, by omega, by go_num, HB7.out⟩
      case measure => simp [RowKit.intOf]; omega
    · obtain rfl : k = bs.length := by omega
      go_wp2_with fail
      refine (HWK.out _).mono ?_
      rintro e w7 ⟨rfl, hb⟩
      have HB := Lib.hid (HB6.out.trans ((HBW.out.trans (hb.mono HBW.out.size)).mono HB6.out.size))
      clear hb
      go_wp2
      go_ret
      exact ⟨rfl, HB.out⟩
end Go.Proofs.YtipfhamhiaeieaaDoor
