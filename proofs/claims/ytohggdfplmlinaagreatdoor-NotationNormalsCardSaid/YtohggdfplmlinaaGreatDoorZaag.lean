/-
  layers 2 and 4: Change of sounds; the longest mark at the beginning of a text. Conditions: values of 32 bits; a notation in memory.
-/
import Derived.Test.YtohggdfplmlinaaGreatDoorZaaf
namespace Go.Proofs.YtohggdfplmlinaaGreatDoor
open Go.RowKit Go.Lib

theorem and32 {a b : Nat} (h : a < 4294967296) : a &&& b < 4294967296 := Nat.lt_of_le_of_lt Nat.and_le_left h
theorem or32 {a b : Nat} (ha : a < 4294967296) (hb : b < 4294967296) : a ||| b < 4294967296 := Nat.or_lt_two_pow (n := 32) ha hb
theorem andn32 {a b : Nat} (h : a < 4294967296) : andn a b < 4294967296 := and32 h
theorem mix_ok {s t : Snd} {set : Nat} (hs : ok32 s) (ht : ok32 t) : ok32 (mixS s t set) := ⟨or32 (andn32 hs.1) (and32 ht.1), or32 (andn32 hs.2) (and32 ht.2)⟩
theorem chg_ok {x s : Snd} {c : Nat} (hx : ok32 x) (hs : ok32 s) : ok32 (chgS x c s) := by
  unfold chgS
  split
  · exact mix_ok hx hs
  · exact ⟨Nat.succ_pos _, Nat.succ_pos _⟩
set_option maxRecDepth 20000 in
theorem has_any (s : Snd) (w : World) (hs : ok32 s) : Calls Tryz.prog 105 #[sndV s] w fun e w' => e = .returned (.int .u32 (hasB s)) ∧ Below w.heap.size w w' := by
  have e1 := u32_or_nat s.1 s.2 hs.1 hs.2
  have eh : hasB s = s.1 ||| s.2 := rfl
  rw [eh]
  obtain ⟨x, y⟩ := s
  simp only at *
  generalize x ||| y = o at *
  clear hs eh
  go_enter Tryz.func105, Tryz.ntmps105
  go_wp2
  go_ret
  exact ⟨rfl, (Below.refl _ _).alloc (Nat.le_refl _) _⟩
set_option maxRecDepth 20000 in
theorem mix_any (s t : Snd) (set : Nat) (w : World) (hs : ok32 s) (ht : ok32 t) (hset : set < 4294967296) : Calls Tryz.prog 106 #[sndV s, sndV t, .int .u32 set] w fun e w' => e = .returned (sndV (mixS s t set)) ∧ Below w.heap.size w w' := by
  have e1 := u32_andNot_nat s.1 set hs.1 hset
  have e2 := u32_and_nat t.1 set ht.1 hset
  have e3 := u32_or_nat (andn s.1 set) (t.1 &&& set) (andn32 hs.1) (and32 ht.1)
  have f1 := u32_andNot_nat s.2 set hs.2 hset
  have f2 := u32_and_nat t.2 set ht.2 hset
  have f3 := u32_or_nat (andn s.2 set) (t.2 &&& set) (andn32 hs.2) (and32 ht.2)
  change _ = ((andn s.1 set : Nat) : Int) at e1
  change _ = ((andn s.2 set : Nat) : Int) at f1
  have hm : mixS s t set = (andn s.1 set ||| (t.1 &&& set), andn s.2 set ||| (t.2 &&& set)) := rfl
  rw [hm]
  obtain ⟨x, y⟩ := s
  obtain ⟨p, q⟩ := t
  simp only at *
  generalize andn x set ||| (p &&& set) = r1 at *
  generalize andn y set ||| (q &&& set) = r2 at *
  generalize andn x set = a1 at *
  generalize andn y set = a2 at *
  generalize p &&& set = b1 at *
  generalize q &&& set = b2 at *
  clear hs ht hset hm
  go_enter Tryz.func106, Tryz.ntmps106
  go_wp2
  have hb := Blk.new ((w.alloc (.cells #[.int .u32 x, .int .u32 y] 30)).alloc (.cells #[.int .u32 p, .int .u32 q] 30)) 30 #[.int .u32 r1, .int .u32 r2]
  have g0 := hb.cell 0
  have g1 := hb.cell 1
  simp only [World.size_alloc, List.getElem?_toArray, List.getElem?_cons_zero, List.getElem?_cons_succ] at g0 g1
  have hbe := (((Below.refl w.heap.size w).alloc (Nat.le_refl _) (.cells #[.int .u32 x, .int .u32 y] 30)).alloc (by simp) (.cells #[.int .u32 p, .int .u32 q] 30)).alloc (by simp; omega) (.cells #[.int .u32 r1, .int .u32 r2] 30)
  generalize ((w.alloc (.cells #[.int .u32 x, .int .u32 y] 30)).alloc (.cells #[.int .u32 p, .int .u32 q] 30)).alloc (.cells #[.int .u32 r1, .int .u32 r2] 30) = W at *
  exact bodyPost_ret (v := sndV (r1, r2)) (by simp [results, Tryz.results106, go_sem, g0, g1]) rfl ⟨rfl, hbe⟩
theorem prefix_take (s p : List UInt8) : p.isPrefixOf s = decide (s.take p.length = p) := by
  rw [Bool.eq_iff_iff, List.isPrefixOf_iff_prefix, List.prefix_iff_eq_take, decide_eq_true_eq]
  exact eq_comm
set_option maxRecDepth 20000 in
theorem prefix1_any (s p : ByteArray) (w : World) : Calls Tryz.prog 110 #[.string s, .string p] w fun e w' => e = .returned (.bool ((bs p).isPrefixOf (bs s))) ∧ w = w' := by
  have hq := beq_bs (s.extract 0 p.size) p
  rw [bs_pre, ← size_bs p, ← prefix_take, size_bs] at hq
  obtain ⟨r, hr⟩ : ∃ r, (bs p).isPrefixOf (bs s) = r := ⟨_, rfl⟩
  rw [hr] at hq ⊢
  by_cases h : p.size ≤ s.size
  · have hI : (p.size : Int) ≤ (s.size : Int) := by omega
    clear hr
    go_enter Tryz.func110, Tryz.ntmps110
    go_wp2
    go_ret
    exact ⟨rfl, rfl⟩
  · have hI : ¬ (p.size : Int) ≤ (s.size : Int) := by omega
    obtain rfl : r = false := by
      rw [← hr, prefix_take, decide_eq_false]
      intro e
      have := congrArg List.length e
      rw [List.length_take, size_bs, size_bs] at this
      omega
    clear hr hq
    go_enter Tryz.func110, Tryz.ntmps110
    go_wp2
    go_ret
    exact ⟨rfl, rfl⟩
set_option maxRecDepth 20000 in
theorem prefix_any (s p : ByteArray) (w : World) : Calls Tryz.prog 104 #[.string s, .string p] w fun e w' => e = .returned (.bool ((bs p).isPrefixOf (bs s))) ∧ w = w' := by
  have hc := prefix1_any s p w
  go_enter Tryz.func104, Tryz.ntmps104
  go_wp2_with fail
  refine hc.mono ?_
  rintro e w' ⟨rfl, rfl⟩
  go_wp2
  go_ret
  exact ⟨rfl, rfl⟩
/-- What Change gives back: the sound that was stored last. -/
theorem chg_ret {Q : Ending → World → Prop} {a : Act} {W : World} {b x y : Nat} (v : Value) (hd : a.defers = []) (ha : a.tmps[6]? = some (.pointer (some ⟨b, 0, none⟩))) (hv : a.tmps[7]? = some v) (h0 : ∃ u, W.cell? ⟨b, 0, none⟩ = some u) (h1 : ∃ u, W.cell? ⟨b, 1, none⟩ = some u)
    (h : Q (.returned (.tuple #[sndV (x, y), v])) ((W.setCell ⟨b, 0, none⟩ (.int .u32 x)).setCell ⟨b, 1, none⟩ (.int .u32 y))) : bodyPost Tryz.prog Tryz.f95 Q .ret a ((W.setCell ⟨b, 0, none⟩ (.int .u32 x)).setCell ⟨b, 1, none⟩ (.int .u32 y)) := by
  obtain ⟨u0, h0⟩ := h0
  obtain ⟨u1, h1⟩ := h1
  have e1 : ((W.setCell ⟨b, 0, none⟩ (.int .u32 x)).setCell ⟨b, 1, none⟩ (.int .u32 y)).cell? ⟨b, 0, none⟩ = some (.int .u32 x) := by
    rw [World.cell?_setCell_other _ _ _ _ (by simp)]
    exact World.cell?_setCell_same _ _ _ h0
  have e2 : ((W.setCell ⟨b, 0, none⟩ (.int .u32 x)).setCell ⟨b, 1, none⟩ (.int .u32 y)).cell? ⟨b, 1, none⟩ = some (.int .u32 y) := by
    obtain ⟨v', hv'⟩ := cell?_setCell_some (x := .int .u32 x) (p := ⟨b, 0, none⟩) h1
    exact World.cell?_setCell_same _ _ _ hv'
  generalize (W.setCell ⟨b, 0, none⟩ (.int .u32 x)).setCell ⟨b, 1, none⟩ (.int .u32 y) = W2 at *
  exact bodyPost_ret (v := .tuple #[sndV (x, y), v]) (by simp [results, Tryz.results95, go_sem, ha, hv, e1, e2]) hd h
set_option linter.unusedSimpArgs false in
set_option maxRecDepth 20000 in
set_option maxHeartbeats 1000000 in
theorem change_any (x s : Snd) (c : Nat) (w : World) (hx : ok32 x) (hs : ok32 s) (hc : is32 c) : Calls Tryz.prog 95 #[sndV x, .int .u32 c, sndV s] w fun e w' => ∃ v : Int, e = .returned (.tuple #[sndV (chgS x c s), .int .i64 v]) ∧ Below w.heap.size w w' := by
  obtain ⟨R, hR⟩ : ∃ R, chgS x c s = R := ⟨_, rfl⟩
  have hv1 := fun W => fvalid_any x W hx
  have hv2 := fun W => fvalid_any s W hs
  have hh := fun W => has_any s W hs
  have hc' : c < 4294967296 := hc
  have hhb : hasB s < 4294967296 := or32 hs.1 hs.2
  have hmx := fun W => mix_any x s (c ||| hasB s) W hx hs (or32 hc' hhb)
  have e1 := u32_and_nat c (hasB s) hc' hhb
  have e2 := u32_or_nat c (hasB s) hc' hhb
  have hRE : R = if validS x = true ∧ validS s = true ∧ c ≤ 16777215 ∧ c &&& hasB s = 0 then mixS x s (c ||| hasB s) else (0, 0) := hR.symm
  rw [hR]
  have HV1 := Lib.hid hv1; have HV2 := Lib.hid hv2; have HH := Lib.hid hh; have HMX := Lib.hid hmx
  generalize c &&& hasB s = q at *
  generalize c ||| hasB s = o at *
  generalize mixS x s o = mx at *
  generalize hasB s = hb at *
  generalize validS x = v1 at *
  generalize validS s = v2 at *
  obtain ⟨x1, x2⟩ := x
  obtain ⟨s1, s2⟩ := s
  have hx0 := (((Blk.new w 30 #[.int .u32 x1, .int .u32 x2]).alloc (.cells #[.int .u32 s1, .int .u32 s2] 30)).alloc (.cells #[.int .u32 0, .int .u32 0] 30))
  have hs0 := (Blk.new (w.alloc (.cells #[.int .u32 x1, .int .u32 x2] 30)) 30 #[.int .u32 s1, .int .u32 s2]).alloc (.cells #[.int .u32 0, .int .u32 0] 30)
  have hr0 := Blk.new ((w.alloc (.cells #[.int .u32 x1, .int .u32 x2] 30)).alloc (.cells #[.int .u32 s1, .int .u32 s2] 30)) 30 #[.int .u32 0, .int .u32 0]
  have hb0 := (((Below.refl w.heap.size w).alloc (Nat.le_refl _) (.cells #[.int .u32 x1, .int .u32 x2] 30)).alloc (by simp) (.cells #[.int .u32 s1, .int .u32 s2] 30)).alloc (by simp; omega) (.cells #[.int .u32 0, .int .u32 0] 30)
  simp only [World.size_alloc] at hs0 hr0
  have hsz : (((w.alloc (.cells #[.int .u32 x1, .int .u32 x2] 30)).alloc (.cells #[.int .u32 s1, .int .u32 s2] 30)).alloc (.cells #[.int .u32 0, .int .u32 0] 30)).heap.size = w.heap.size + 3 := by simp
  obtain ⟨W0, hW0⟩ : ∃ W, ((w.alloc (.cells #[.int .u32 x1, .int .u32 x2] 30)).alloc (.cells #[.int .u32 s1, .int .u32 s2] 30)).alloc (.cells #[.int .u32 0, .int .u32 0] 30) = W := ⟨_, rfl⟩
  rw [hW0] at hx0 hs0 hr0 hb0 hsz
  have hk : ∀ W, Below W0.heap.size W0 W → Below w.heap.size w W ∧ (W.cell? ⟨w.heap.size, 0, none⟩ = some (.int .u32 x1) ∧ W.cell? ⟨w.heap.size, 1, none⟩ = some (.int .u32 x2)) ∧ (W.cell? ⟨w.heap.size + 1, 0, none⟩ = some (.int .u32 s1) ∧ W.cell? ⟨w.heap.size + 1, 1, none⟩ = some (.int .u32 s2)) ∧ (W.cell? ⟨w.heap.size + 1 + 1, 0, none⟩ = some (.int .u32 0) ∧ W.cell? ⟨w.heap.size + 1 + 1, 1, none⟩ = some (.int .u32 0)) ∧ (W.frozen? ⟨w.heap.size + 1 + 1, 0, none⟩ = false ∧ W.frozen? ⟨w.heap.size + 1 + 1, 1, none⟩ = false) ∧ w.heap.size + 3 ≤ W.heap.size := by
    intro W hb
    have hsW := hb.size
    exact ⟨hb0.trans (hb.mono (by omega)), ⟨(hx0.below hb (by omega)).cell 0, (hx0.below hb (by omega)).cell 1⟩, ⟨(hs0.below hb (by omega)).cell 0, (hs0.below hb (by omega)).cell 1⟩, ⟨(hr0.below hb (by omega)).cell 0, (hr0.below hb (by omega)).cell 1⟩, ⟨(hr0.below hb (by omega)).frozen 0, (hr0.below hb (by omega)).frozen 1⟩, by omega⟩
  have HK := Lib.hid hk; have HW := Lib.hid hW0
  have hf1 : w.heap.size + 1 + 1 ≠ w.heap.size := by omega
  have hf2 : w.heap.size + 1 + 1 ≠ w.heap.size + 1 := by omega
  clear hv1 hv2 hh hmx hx hs hc hc' hhb hR hx0 hs0 hr0 hb0 hsz hk hW0
  have HRE := Lib.hid hRE
  clear hRE
  go_enter Tryz.func95, Tryz.ntmps95
  go_wp2_with fail
  rw [HW.out]
  clear HW
  refine (HV1.out _).mono ?_
  rintro e w1 ⟨rfl, hb1⟩
  have HB1 := Lib.hid hb1
  obtain ⟨hbw1, ⟨x0, x1'⟩, ⟨s0, s1'⟩, ⟨r0, r1⟩, ⟨fr0, fr1⟩, hsz1⟩ := HK.out _ hb1
  have HBW1 := Lib.hid hbw1
  clear hb1 hbw1
  cases v1 with
  | false =>
    obtain rfl : R = (0, 0) := by have := HRE.out; simpa using this
    clear HRE
    go_wp2
    exact chg_ret (.int .i64 14) rfl rfl rfl ⟨_, r0⟩ ⟨_, r1⟩ ⟨14, rfl, (HBW1.out.setCell (by show w.heap.size ≤ w.heap.size + 1 + 1; omega) _).setCell (by show w.heap.size ≤ w.heap.size + 1 + 1; omega) _⟩
  | true =>
    go_wp2_with fail
    refine (HV2.out _).mono ?_
    rintro e w2 ⟨rfl, hb2⟩
    clear x0 x1' s0 s1' r0 r1 fr0 fr1
    have hb2' := HB1.out.trans (hb2.mono HB1.out.size)
    have HB2 := Lib.hid hb2'
    obtain ⟨hbw2, ⟨x0, x1'⟩, ⟨s0, s1'⟩, ⟨r0, r1⟩, ⟨fr0, fr1⟩, hsz2⟩ := HK.out _ hb2'
    have HBW2 := Lib.hid hbw2
    clear hb2 hb2' hbw2
    cases v2 with
    | false =>
      obtain rfl : R = (0, 0) := by have := HRE.out; simpa using this
      clear HRE
      go_wp2
      exact chg_ret (.int .i64 14) rfl rfl rfl ⟨_, r0⟩ ⟨_, r1⟩ ⟨14, rfl, (HBW2.out.setCell (by show w.heap.size ≤ w.heap.size + 1 + 1; omega) _).setCell (by show w.heap.size ≤ w.heap.size + 1 + 1; omega) _⟩
    | true =>
      by_cases hc : (c : Int) ≤ 16777215
      case neg =>
        obtain rfl : R = (0, 0) := by
          have := HRE.out
          rw [if_neg (fun h => hc (by have := h.2.2.1; omega))] at this
          exact this
        clear HRE
        go_wp2
        exact chg_ret (.int .i64 2) rfl rfl rfl ⟨_, r0⟩ ⟨_, r1⟩ ⟨2, rfl, (HBW2.out.setCell (by show w.heap.size ≤ w.heap.size + 1 + 1; omega) _).setCell (by show w.heap.size ≤ w.heap.size + 1 + 1; omega) _⟩
      go_wp2_with fail
      refine (HH.out _).mono ?_
      rintro e w3 ⟨rfl, hb3⟩
      clear x0 x1' s0 s1' r0 r1 fr0 fr1
      have hb3' := HB2.out.trans (hb3.mono HB2.out.size)
      have HB3 := Lib.hid hb3'
      obtain ⟨hbw3, ⟨x0, x1'⟩, ⟨s0, s1'⟩, ⟨r0, r1⟩, ⟨fr0, fr1⟩, hsz3⟩ := HK.out _ hb3'
      have HBW3 := Lib.hid hbw3
      clear hb3 hb3' hbw3
      by_cases hq : q = 0
      case neg =>
        have hqI : ((q : Int) != 0) = true := by rw [bne_iff_ne]; omega
        obtain rfl : R = (0, 0) := by
          have := HRE.out
          rw [if_neg (fun h => hq h.2.2.2)] at this
          exact this
        clear HRE
        go_wp2
        exact chg_ret (.int .i64 2) rfl rfl rfl ⟨_, r0⟩ ⟨_, r1⟩ ⟨2, rfl, (HBW3.out.setCell (by show w.heap.size ≤ w.heap.size + 1 + 1; omega) _).setCell (by show w.heap.size ≤ w.heap.size + 1 + 1; omega) _⟩
      subst hq
      obtain rfl : R = mx := by
        have := HRE.out
        have hc' : c ≤ 16777215 := by omega
        simpa [hc'] using this
      clear HRE
      go_wp2
      refine wp_region_held_drew (S := (fun W => W.cell? ⟨w.heap.size, 0, none⟩ = some (.int .u32 x1) ∧ W.cell? ⟨w.heap.size, 1, none⟩ = some (.int .u32 x2) ∧ W.cell? ⟨w.heap.size + 1, 0, none⟩ = some (.int .u32 s1) ∧ W.cell? ⟨w.heap.size + 1, 1, none⟩ = some (.int .u32 s2))) (by kernel_rfl) ?_ (fun hHeld => ?_)
      · (try dsimp only)
        exact ⟨x0, x1', s0, s1'⟩
      refine wpAnyH_take (i := 0) (v := ?_) rfl (by kernel_rfl) (by kernel_rfl) (by kernel_rfl) (fun _ _ _ h => h) (Or.inl ⟨by rfl, ?_⟩) (by assumption) ?_
      rotate_left
      · intro w hSw
        (try dsimp only at hSw)
        go_simp <;> with_reducible rfl
      try simp only [Act.put, List.getElem_toArray, List.getElem_cons_succ, List.getElem_cons_zero, List.setIfInBounds_toArray, List.set_cons_zero, List.set_cons_succ]
      refine wpAnyH_take (i := 1) (v := ?_) rfl (by kernel_rfl) (by kernel_rfl) (by kernel_rfl) (fun _ _ _ h => h) (Or.inl ⟨by rfl, ?_⟩) (by assumption) ?_
      rotate_left
      · intro w hSw
        (try dsimp only at hSw)
        go_simp <;> with_reducible rfl
      try simp only [Act.put, List.getElem_toArray, List.getElem_cons_succ, List.getElem_cons_zero, List.setIfInBounds_toArray, List.set_cons_zero, List.set_cons_succ]
      refine wpAnyH_take (i := 2) (v := ?_) rfl (by kernel_rfl) (by kernel_rfl) (by kernel_rfl) (fun _ _ _ h => h) (Or.inl ⟨by rfl, ?_⟩) (by assumption) ?_
      rotate_left
      · intro w hSw
        (try dsimp only at hSw)
        go_simp <;> with_reducible rfl
      try simp only [Act.put, List.getElem_toArray, List.getElem_cons_succ, List.getElem_cons_zero, List.setIfInBounds_toArray, List.set_cons_zero, List.set_cons_succ]
      refine wpAnyH_take (i := 3) (v := ?_) rfl (by kernel_rfl) (by kernel_rfl) (by kernel_rfl) (fun _ _ _ h => h) (Or.inl ⟨by rfl, ?_⟩) (by assumption) ?_
      rotate_left
      · intro w hSw
        (try dsimp only at hSw)
        go_simp <;> with_reducible rfl
      try simp only [Act.put, List.getElem_toArray, List.getElem_cons_succ, List.getElem_cons_zero, List.setIfInBounds_toArray, List.set_cons_zero, List.set_cons_succ]
      refine wpAnyH_ready (rs := [4]) (by kernel_rfl) (by simp) ?_
      refine AllReadyH.cons rfl (fun K hK => ?_) AllReadyH.nil
      go_simp
      (try go_wp2_with fail)
      refine (HH.out _).mono ?_
      rintro e w4 ⟨rfl, hb4'⟩
      have hb4 : Below w3.heap.size w3 w4 := (Below.refl _ w3).drew.trans hb4'
      clear hb4' x0 x1' s0 s1' r0 r1 fr0 fr1
      have hb4' := HB3.out.trans (hb4.mono HB3.out.size)
      have HB4 := Lib.hid hb4'
      obtain ⟨hbw4, ⟨x0, x1'⟩, ⟨s0, s1'⟩, ⟨r0, r1⟩, ⟨fr0, fr1⟩, hsz4⟩ := HK.out _ hb4'
      have HBW4 := Lib.hid hbw4
      clear hb4 hb4' hbw4
      (try go_simp)
      refine hK.out _ _ ?_ (fun hHeld' => ?_)
      · (try dsimp only)
        exact ⟨x0, x1', s0, s1'⟩
      clear hK K hHeld
      have hHeld := hHeld'
      clear hHeld'
      refine wpAnyH_take (i := 5) (v := ?_) rfl (by kernel_rfl) (by kernel_rfl) (by kernel_rfl) (fun _ _ _ h => h) (Or.inl ⟨by rfl, ?_⟩) (by assumption) ?_
      rotate_left
      · intro w hSw
        (try dsimp only at hSw)
        go_simp <;> with_reducible rfl
      try simp only [Act.put, List.getElem_toArray, List.getElem_cons_succ, List.getElem_cons_zero, List.setIfInBounds_toArray, List.set_cons_zero, List.set_cons_succ]
      refine wpAnyH_ready (rs := [6]) (by kernel_rfl) (by simp) ?_
      refine AllReadyH.cons rfl (fun K hK => ?_) AllReadyH.nil
      go_simp
      (try go_wp2_with fail)
      refine (HMX.out _).mono ?_
      rintro e w5 ⟨rfl, hb5⟩
      clear x0 x1' s0 s1' r0 r1 fr0 fr1
      have hb5' := HB4.out.trans (hb5.mono HB4.out.size)
      have HB5 := Lib.hid hb5'
      obtain ⟨hbw5, ⟨x0, x1'⟩, ⟨s0, s1'⟩, ⟨r0, r1⟩, ⟨fr0, fr1⟩, hsz5⟩ := HK.out _ hb5'
      have HBW5 := Lib.hid hbw5
      clear hb5 hb5' hbw5
      (try go_simp)
      refine hK.out _ _ ?_ (fun hHeld' => ?_)
      · (try dsimp only)
        exact ⟨x0, x1', s0, s1'⟩
      clear hK K hHeld
      have hHeld := hHeld'
      clear hHeld'
      refine wpAnyH_ready (rs := [7]) (by kernel_rfl) (by simp) ?_
      refine AllReadyH.cons rfl (fun K hK => ?_) AllReadyH.nil
      go_simp
      refine hK.out _ _ ?_ (fun hHeld' => ?_)
      · (try dsimp only)
        exact ⟨by rw [World.cell?_setCell_far _ _ _ _ hf1, World.cell?_setCell_far _ _ _ _ hf1]; exact x0, by rw [World.cell?_setCell_far _ _ _ _ hf1, World.cell?_setCell_far _ _ _ _ hf1]; exact x1', by rw [World.cell?_setCell_far _ _ _ _ hf2, World.cell?_setCell_far _ _ _ _ hf2]; exact s0, by rw [World.cell?_setCell_far _ _ _ _ hf2, World.cell?_setCell_far _ _ _ _ hf2]; exact s1'⟩
      clear hK K hHeld
      have hHeld := hHeld'
      clear hHeld'
      refine wpAnyH_take (i := 8) (v := ?_) rfl (by kernel_rfl) (by kernel_rfl) (by kernel_rfl) (fun _ _ _ h => h) (Or.inl ⟨by rfl, ?_⟩) (by assumption) ?_
      rotate_left
      · intro w hSw
        (try dsimp only at hSw)
        go_simp <;> with_reducible rfl
      try simp only [Act.put, List.getElem_toArray, List.getElem_cons_succ, List.getElem_cons_zero, List.setIfInBounds_toArray, List.set_cons_zero, List.set_cons_succ]
      refine wpAnyH_done (by kernel_rfl) ?_ _
      clear hHeld
      go_wp2
      exact chg_ret (.int .i64 0) rfl rfl rfl ⟨_, r0⟩ ⟨_, r1⟩ ⟨0, rfl, (HBW5.out.setCell (by show w.heap.size ≤ w.heap.size + 1 + 1; omega) _).setCell (by show w.heap.size ≤ w.heap.size + 1 + 1; omega) _⟩
end Go.Proofs.YtohggdfplmlinaaGreatDoor
namespace Go.Proofs.YtohggdfplmlinaaGreatDoor
open Go.RowKit Go.Lib

theorem NotM.parts {w : World} {S : Nat → Prop} {g : Nat} {fs : List ByteArray} {L : List Nam} {ms : List Mk} (h : NotM w S g fs L ms) : ∃ gi A c bm n f,
    Blk w g 79 #[wptr gi, .slice A ms.length c, .map (some bm)] ∧ InvM w S gi fs L ∧ Reads w w.heap.size 4 A ms.length (ms.flatMap markC) ∧ (MapKS w bm n f ∧ ∀ s t, f s = some t → bs t = bestS L ms s) ∧ (∀ m ∈ ms, okMk m) ∧ ms.length ≤ 32 := by
  obtain ⟨N, gi, A, c, bm, n, f, ⟨h1, -⟩, h2, ⟨h3, -⟩, ⟨h4, -, h5⟩, -, h6, h7⟩ := h
  obtain ⟨A', c', e, -, -, hr⟩ := own_reads h3
  injection e with e1 e2 e3
  subst e1; subst e3
  refine ⟨gi, A, c, bm, n, f, h1, h2.mono (fun b hb => hb.1), hr, ⟨h4, h5⟩, h6, ?_⟩
  unfold notK at h7
  split at h7
  · cases h7
  · omega
set_option maxRecDepth 20000 in
theorem nvalid_any {w : World} {S : Nat → Prop} {g : Nat} {fs : List ByteArray} {L : List Nam} {ms : List Mk} (h : NotM w S g fs L ms) : Calls Tryz.prog 31 #[wptr g] w fun e w' => e = .returned (.bool true) ∧ w = w' := by
  obtain ⟨gi, A, c, bm, n, f, h1, -⟩ := h.parts
  have c0 := h1.cell 0
  simp only [List.getElem?_toArray, List.getElem?_cons_zero] at c0
  clear h h1
  go_enter Tryz.func31, Tryz.ntmps31
  go_wp2
  go_ret
  exact ⟨rfl, rfl⟩
abbrev noMk : Mk := ⟨⟨#[]⟩, 0, (0, 0)⟩
theorem mkLen_getD (b : Option Mk) : mkLen b = (b.getD noMk).text.size := by cases b <;> rfl
theorem fold_next {ms : List Mk} {t : List UInt8} {k : Nat} (hk : k < ms.length) : (ms.take (k + 1)).foldl (markS t) none = markS t ((ms.take k).foldl (markS t) none) ms[k] := by
  rw [List.take_succ_eq_append_getElem hk, List.foldl_append]; rfl
abbrev mkC (m : Mk) : Array Value := #[.string m.text, .int .u32 m.clear, .int .u32 m.set.1, .int .u32 m.set.2]
theorem set4 {w : World} {b : Nat} {m : Mk} {t : TypeId} (x : Mk) (h : Blk w b t (mkC m)) : Blk ((((w.setCell ⟨b, 0, none⟩ (.string x.text)).setCell ⟨b, 1, none⟩ (.int .u32 x.clear)).setCell ⟨b, 2, none⟩ (.int .u32 x.set.1)).setCell ⟨b, 3, none⟩ (.int .u32 x.set.2)) b t (mkC x) :=
  (((h.set_ 0 (.string x.text)).set_ 1 (.int .u32 x.clear)).set_ 2 (.int .u32 x.set.1)).set_ 3 (.int .u32 x.set.2)
theorem below4 {w w0 : World} {B b : Nat} (x : Mk) (h : Below B w0 w) (hb : B ≤ b) : Below B w0 ((((w.setCell ⟨b, 0, none⟩ (.string x.text)).setCell ⟨b, 1, none⟩ (.int .u32 x.clear)).setCell ⟨b, 2, none⟩ (.int .u32 x.set.1)).setCell ⟨b, 3, none⟩ (.int .u32 x.set.2)) :=
  (((h.setCell (p := ⟨b, 0, none⟩) hb _).setCell (p := ⟨b, 1, none⟩) hb _).setCell (p := ⟨b, 2, none⟩) hb _).setCell (p := ⟨b, 3, none⟩) hb _
set_option maxRecDepth 20000 in
set_option maxHeartbeats 1000000 in
theorem mark_any {w : World} {S : Nat → Prop} {g : Nat} {fs : List ByteArray} {L : List Nam} {ms : List Mk} (s : ByteArray) (h : NotM w S g fs L ms) : Calls Tryz.prog 94 #[wptr g, .string s] w fun e w' => e = .returned (.tuple #[markV ((markAt ms (bs s)).getD noMk), .bool (markAt ms (bs s)).isSome]) ∧ Below w.heap.size w w' := by
  obtain ⟨gi, A, c, bm, n, f, h1, -, hr, -, -, h32⟩ := h.parts
  have hgl := h1.lt
  have c1 := h1.cell 1
  simp only [List.getElem?_toArray, List.getElem?_cons_zero, List.getElem?_cons_succ] at c1
  have HR := Lib.hid hr
  have hnew := Blk.new w 83 #[.string ⟨#[]⟩, .int .u32 0, .int .u32 0, .int .u32 0]
  have hb0 := (Below.refl w.heap.size w).alloc (Nat.le_refl _) (.cells #[.string ⟨#[]⟩, .int .u32 0, .int .u32 0, .int .u32 0] 83)
  have hsz0 : (w.alloc (.cells #[.string ⟨#[]⟩, .int .u32 0, .int .u32 0, .int .u32 0] 83)).heap.size = w.heap.size + 1 := World.size_alloc _ _
  obtain ⟨w0, hw0⟩ : ∃ W, w.alloc (.cells #[.string ⟨#[]⟩, .int .u32 0, .int .u32 0, .int .u32 0] 83) = W := ⟨_, rfl⟩
  rw [hw0] at hnew hb0 hsz0
  have HN := Lib.hid hnew; have HB0 := Lib.hid hb0; have HW := Lib.hid hw0
  clear h h1 hr hnew hb0 hw0
  go_enter Tryz.func94, Tryz.ntmps94
  go_wp2
  rw [HW.out]
  clear HW
  go_loopw [5, 13] (fun r i wr => ∃ k : Nat, k ≤ ms.length ∧ i = .int .i64 k ∧ r = .bool (((ms.take k).foldl (markS (bs s)) none).isSome) ∧ Blk wr w.heap.size 83 (mkC (((ms.take k).foldl (markS (bs s)) none).getD noMk)) ∧ Below w.heap.size w wr) (fun _ i _ => ms.length - (RowKit.intOf i).toNat)
  case atStart => exact ⟨0, by omega, rfl, rfl, HN.out, HB0.out⟩
  case round =>
    obtain ⟨k, hk, rfl, rfl, hbk, hbw⟩ := hrel
    have HBK := Lib.hid hbk; have HBW := Lib.hid hbw
    have hszw := hbk.lt
    clear hbk hbw
    by_cases hlt : k < ms.length
    · have hkI : (k : Int) < (ms.length : Int) := by omega
      obtain ⟨ad, rfl, had, e0, e1, e2, e3⟩ := mark_cells (HR.out.below HBW.out) hlt
      have hnx := fold_next (t := bs s) hlt
      have hln := mkLen_getD ((ms.take k).foldl (markS (bs s)) none)
      have HNX := Lib.hid hnx
      have hbk := HBK.out
      generalize (ms.take k).foldl (markS (bs s)) none = b at *
      clear hnx
      have hnx := HNX.out
      clear HNX
      generalize ms[k] = y at *
      have hp := fun W => prefix_any s y.text W
      have hst : markS (bs s) b y = if ((bs y.text).isPrefixOf (bs s) && decide (mkLen b < y.text.size)) = true then some y else b := rfl
      rw [hst, hln] at hnx
      have hbk1 := hbk.alloc (.cells (mkC y) 83)
      have hny := Blk.new wr 83 (mkC y)
      have hbw1 := HBW.out.alloc (by omega) (.cells (mkC y) 83)
      have HNX := Lib.hid hnx; have HP := Lib.hid hp; have HBK1 := Lib.hid hbk1; have HNY := Lib.hid hny; have HBW1 := Lib.hid hbw1
      clear hnx hp hbk1 hny hbw1 hst hln hbk
      generalize (bs y.text).isPrefixOf (bs s) = r at *
      go_wp2_with fail
      refine (HP.out _).mono ?_
      rintro e w1 ⟨rfl, hw1⟩
      have hy1 := HNY.out
      have hb1 := HBK1.out
      have hbw1 := HBW1.out
      change wr.alloc (.cells (mkC y) 83) = w1 at hw1
      rw [hw1] at hy1 hb1 hbw1
      clear hw1 e0 e1 e2 e3 HP HBK HBW HNY HBK1 HBW1
      have y0 := hy1.cell 0; have y1 := hy1.cell 1; have y2 := hy1.cell 2; have y3 := hy1.cell 3
      have b0 := hb1.cell 0; have b1 := hb1.cell 1; have b2 := hb1.cell 2; have b3 := hb1.cell 3
      have fr0 := hb1.frozen 0; have fr1 := hb1.frozen 1; have fr2 := hb1.frozen 2; have fr3 := hb1.frozen 3
      simp only [List.getElem?_toArray, List.getElem?_cons_zero, List.getElem?_cons_succ] at y0 y1 y2 y3 b0 b1 b2 b3
      have HB1 := Lib.hid hb1; have HBW1 := Lib.hid hbw1
      clear hy1 hb1 hbw1
      cases r with
      | false =>
        have hnx := HNX.out
        simp only [Bool.false_and, Bool.false_eq_true, if_false] at hnx
        have HNX2 := Lib.hid hnx
        clear hnx HNX
        go_wp2
        go_roundw
        case rel => exact ⟨k + 1, by omega, by go_num, by rw [HNX2.out], by rw [HNX2.out]; exact HB1.out, HBW1.out⟩
        case measure => simp [RowKit.intOf]; omega
      | true =>
        by_cases hl : (b.getD noMk).text.size < y.text.size
        · have hlI : ((b.getD noMk).text.size : Int) < (y.text.size : Int) := by omega
          have hnx := HNX.out
          rw [decide_eq_true hl] at hnx
          have hs4 := set4 y HB1.out
          have hbe4 := below4 y HBW1.out (Nat.le_refl w.heap.size)
          have HNX2 := Lib.hid (show (ms.take (k + 1)).foldl (markS (bs s)) none = some y from hnx); have HS4 := Lib.hid hs4; have HBE4 := Lib.hid hbe4
          clear hnx HNX hs4 hbe4 hl
          go_wp2
          go_roundw
          case rel => exact ⟨k + 1, by omega, by go_num, by rw [HNX2.out]; rfl, by rw [HNX2.out]; exact HS4.out, HBE4.out⟩
          case measure => simp [RowKit.intOf]; omega
        · have hlI : ¬ ((b.getD noMk).text.size : Int) < (y.text.size : Int) := by omega
          have hnx := HNX.out
          rw [decide_eq_false hl] at hnx
          have HNX2 := Lib.hid (show (ms.take (k + 1)).foldl (markS (bs s)) none = b from hnx)
          clear hnx HNX hl
          go_wp2
          go_roundw
          case rel => exact ⟨k + 1, by omega, by go_num, by rw [HNX2.out], by rw [HNX2.out]; exact HB1.out, HBW1.out⟩
          case measure => simp [RowKit.intOf]; omega
    · obtain rfl : k = ms.length := by omega
      have hbk := HBK.out
      rw [List.take_length] at hbk
      have hm : (ms.take ms.length).foldl (markS (bs s)) none = markAt ms (bs s) := by rw [List.take_length]; rfl
      rw [hm]
      change Blk wr w.heap.size 83 (mkC ((markAt ms (bs s)).getD noMk)) at hbk
      obtain ⟨b, hbb⟩ : ∃ b, markAt ms (bs s) = b := ⟨_, rfl⟩
      rw [hbb] at hbk ⊢
      have HBB := Lib.hid hbb
      clear hbb
      have b0 := hbk.cell 0; have b1 := hbk.cell 1; have b2 := hbk.cell 2; have b3 := hbk.cell 3
      have fr0 := hbk.frozen 0; have fr1 := hbk.frozen 1; have fr2 := hbk.frozen 2; have fr3 := hbk.frozen 3
      simp only [List.getElem?_toArray, List.getElem?_cons_zero, List.getElem?_cons_succ] at b0 b1 b2 b3
      have hs4 := set4 (b.getD noMk) hbk
      have hbe4 := below4 (b.getD noMk) HBW.out (Nat.le_refl w.heap.size)
      have HS4 := Lib.hid hs4; have HBE4 := Lib.hid hbe4
      clear hm hbk hs4 hbe4 hlt HBK
      obtain ⟨m, hmm⟩ : ∃ m, b.getD noMk = m := ⟨_, rfl⟩
      rw [hmm] at b0 b1 b2 b3 HS4 HBE4
      have HMM := Lib.hid hmm
      clear hmm
      go_wp2
      have hbx := HBE4.out
      have hsx := HS4.out
      generalize (((wr.setCell ⟨w.heap.size, 0, none⟩ (.string m.text)).setCell ⟨w.heap.size, 1, none⟩ (.int .u32 m.clear)).setCell ⟨w.heap.size, 2, none⟩ (.int .u32 m.set.1)).setCell ⟨w.heap.size, 3, none⟩ (.int .u32 m.set.2) = W at hbx hsx ⊢
      have x0 := hsx.cell 0; have x1 := hsx.cell 1; have x2 := hsx.cell 2; have x3 := hsx.cell 3
      simp only [List.getElem?_toArray, List.getElem?_cons_zero, List.getElem?_cons_succ] at x0 x1 x2 x3
      exact bodyPost_ret (v := .tuple #[markV m, .bool b.isSome]) (by simp [results, Tryz.results94, go_sem, x0, x1, x2, x3]) rfl ⟨by rw [HBB.out, HMM.out], hbx⟩
end Go.Proofs.YtohggdfplmlinaaGreatDoor
