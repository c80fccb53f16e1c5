/-
  PackNumbers: the walk. Conditions: a number of 32 bits.
-/
import Derived.Test.YtipfhamhiaeieaaDoorPkNl
import Derived.Test.YtipfhamhiaeieaaDoorPkCl
namespace Go.Proofs.YtipfhamhiaeieaaDoor
open Go.RowKit Go.Lib

theorem own_blocks {w w' : World} {base : Nat} {e : TypeId} {size n : Nat} {v : Value} {xs : List Value} (h : w.ownsRow base e size v n xs) (hb : ∀ b, base ≤ b → b < w.heap.size → w'.heap[b]? = w.heap[b]?) : w'.ownsRow base e size v n xs := by
  obtain ⟨h1, h2 | ⟨g, cap, cur, h3, h4, h5, h6⟩⟩ := h
  · exact ⟨h1, .inl h2⟩
  · exact ⟨h1, .inr ⟨g, cap, cur, h3, h4, (hb g h4 (Array.getElem?_eq_some_iff.1 h5).1).trans h5, h6⟩⟩
set_option maxRecDepth 20000 in
set_option maxHeartbeats 8000000 in
theorem packNumbers_law (n : Nat) (w : World) (hn : is32 n) :
    Calls Tryd.prog 8 #[.int .u32 n] w fun e w' => e = .returned (.bool true) ∧ Below w.heap.size w w' := by
  obtain ⟨i0, hi, hz0, hz1, hz2⟩ := info_parts (show (Tryd.prog.info? 5).map (fun i => (i.zero, i.size, i.bytes)) = some (some (.int .u8 0), 1, 1) by kernel_rfl)
  have hlong := getW_long hn
  have hone := getW_one hn
  have HWK := Lib.hid works_any
  have HLONG := Lib.hid hlong; have HONE := Lib.hid hone; have HN := Lib.hid hn
  clear hlong hone
  unfold is32 at hn
  go_enter Tryd.func8, Tryd.ntmps8
  go_wp2
  go_loopw [3, 4] (fun u i wr => ∃ m j : Nat, ∃ zs : List Nat, i = .int .u32 m ∧ m < 4294967296 ∧ zs.length + j = 4 ∧ m < 128 ^ (j + 1) ∧ zs ++ numK (j + 1) m = numB n ∧ wr.ownsRow w.heap.size 5 1 u (1 + zs.length) ((1 :: zs).map bv) ∧ Below w.heap.size w wr) (fun _ i _ => (RowKit.intOf i).toNat)
  case atStart =>
    refine ⟨n, 4, [], rfl, hn, rfl, Nat.lt_of_lt_of_le hn (by decide), rfl, ?_, (Below.refl _ w).alloc (Nat.le_refl _) _⟩
    exact own_lit1 w 1
  case round =>
    obtain ⟨m, j, zs, rfl, hm, hzl, hmj, hzs, hown, hbw⟩ := hrel
    obtain ⟨A1, c1, rfl, hn1, hc1⟩ := ownsRow_form hown
    have HZ := Lib.hid hzs; have HO := Lib.hid hown; have HBW := Lib.hid hbw; have HMJ := Lib.hid hmj
    clear hzs hown hbw hmj
    by_cases hlt : m < 128
    · have hltI : (m : Int) < 128 := by omega
      have hw8 : (m : Int) % 256 = m := by omega
      have hrn := reads_lit wr 5 1 1 [bv m] rfl
      have HRN := Lib.hid hrn
      clear hrn
      go_wp2_with (at_builtin; refine wpList_append_any _ rfl _ _ _ rfl w.heap.size 5 i0 (.int .u8 0) 1 1 Tryd.underlying35 hi hz0 hz1 hz2 rfl (by decide) _ _ _ rfl (HO.out.alloc _) (wr.heap.size + 1) _ _ _ [bv m] rfl HRN.out (by simp [Value.oneCell']) (by unfold maxLen; omega) (by omega) (by have := HBW.out.size; simp; omega) ?_; intro v2 w2 hown2 hgrow2 _; have HB2 := Lib.hid ((HBW.out.alloc HBW.out.size _).grown hgrow2 (by have := HBW.out.size; simp; omega) (fun g hg => (HO.out.lt g hg).1)); have HO2 := Lib.hid hown2; obtain ⟨A2, c2, rfl, hn2, hc2⟩ := ownsRow_form hown2; clear hown2 hgrow2)
      have hN : zs ++ [m] = numB n := by have := HZ.out; rw [numK, if_pos hlt] at this; exact this
      have ho2 := HO2.out
      obtain ⟨L, hL⟩ : ∃ L, 1 + zs.length + 1 = L := ⟨_, rfl⟩
      rw [show (1 :: zs).map bv ++ [bv m] = (1 :: (zs ++ [m])).map bv by simp, hN] at ho2
      rw [hL] at ho2 hn2 ⊢
      have hL6 : L ≤ 6 := by omega
      have hLN : L = (numB n).length + 1 := by rw [← hN, List.length_append, List.length_singleton]; omega
      have HLN := Lib.hid hLN
      have HO2' := Lib.hid ho2
      clear HO2 hN HZ HMJ HO HRN hL hLN HBW
      refine (cloneB_any A2 L c2 _ w2 _ (Reads.of_own ho2) (bv_one _) (Nat.le_refl _) (by omega)).mono ?_
      clear ho2
      rintro e w3 ⟨v3, rfl, hc3', hb3⟩
      obtain ⟨A3, c3, rfl, hn3, hc3⟩ := ownsRow_form hc3'
      have HO3 := Lib.hid (own_below' HO2'.out hb3); have HC3 := Lib.hid hc3'; have HZ2 := Lib.hid HB2.out.size; have HZ3 := Lib.hid hb3.size
      have HB3 := Lib.hid (HB2.out.trans (hb3.mono HB2.out.size))
      clear hc3' hb3
      have hrn := reads_lit w3 5 1 1 [bv 0] rfl
      have HRN := Lib.hid hrn
      clear hrn
      go_wp2_with (at_builtin; refine wpList_append_any _ rfl _ _ _ rfl w.heap.size 5 i0 (.int .u8 0) 1 1 Tryd.underlying35 hi hz0 hz1 hz2 rfl (by decide) _ _ _ rfl (HO3.out.alloc _) (w3.heap.size + 1) _ _ _ [bv 0] rfl HRN.out (by simp [Value.oneCell']) (by unfold maxLen; omega) (by omega) (by have := HB3.out.size; simp; omega) ?_; intro v4 w4 hown4 hgrow4 _; have HB4 := Lib.hid ((HB3.out.alloc HB3.out.size _).grown hgrow4 (by have := HB3.out.size; simp; omega) (fun g hg => (HO3.out.lt g hg).1)); have HC4 := Lib.hid (own_blocks (HC3.out.alloc (.cells #[bv 0] 5)) (fun b h1 h2 => hgrow4.block b h2 (fun h => by have := (HO2'.out.lt b h.symm).2; omega))); have HZ4 := Lib.hid (show w3.heap.size + 1 ≤ w4.heap.size from (by have := hgrow4.size; simpa using this)); have HO4 := Lib.hid hown4; obtain ⟨A4, c4, rfl, hn4, hc4⟩ := ownsRow_form hown4; clear hown4 hgrow4)
      have hr4 := Reads.of_own HO4.out
      rw [show (1 :: numB n).map bv ++ [bv 0] = (1 :: numB n ++ [0]).map bv by simp] at hr4
      have hlt4 : ∀ b ∈ 1 :: numB n ++ [0], b < 256 := by
        intro b hb
        rcases List.mem_append.1 hb with h | h
        · rcases List.mem_cons.1 h with h | h
          · omega
          · exact numB_lt n b h
        · rw [List.mem_singleton] at h; omega
      have hget := getWord_any w4 A4 (L + 1) c4 _ _ hr4 (Nat.le_refl _) hn4 hc4 (by omega) hlt4
      rw [HONE.out] at hget
      have HR4 := Lib.hid hr4; have HLT4 := Lib.hid hlt4
      clear hr4 hlt4 HO4 HO3 HC3 HB3 HRN
      by_cases h24 : n < 16777216
      · rw [if_pos h24] at hget
        have hsh : ((n : Int) / 16777216 != 0) = false := by rw [bne_eq_false_iff_eq]; omega
        rw [show (numB n).length + 2 = L + 1 by have := HLN.out; omega] at hget
        refine hget.mono ?_
        clear hget
        rintro e w5 ⟨v5, rfl, ho5, hb5⟩
        obtain ⟨A5, c5, rfl, hn5, hc5, hr5⟩ := own_reads ho5
        have HC5 := Lib.hid (own_below' HC4.out hb5)
        have HB5 := Lib.hid (HB4.out.trans (hb5.mono HB4.out.size)); have HZ5 := Lib.hid hb5.size
        have HR5 := Lib.hid ((HR4.out.below hb5).more hb5.size); have HV5 := Lib.hid hr5
        clear ho5 hb5 HC4 HB4 HR4 hr5
        go_wp2_with fail
        have hrP := reads_lit w5 24 2 1 [.int .u32 (n : Int), .int .u32 0] rfl
        have hbP := (Below.refl w5.heap.size w5).alloc (Nat.le_refl _) (.cells #[.int .u32 (n : Int), .int .u32 0] 24)
        have hzP : (w5.alloc (.cells #[.int .u32 (n : Int), .int .u32 0] 24)).heap.size = w5.heap.size + 1 := World.size_alloc _ _
        generalize w5.alloc (.cells #[.int .u32 (n : Int), .int .u32 0] 24) = w6 at *
        have hputP := putWord_any (some ⟨w5.heap.size, 0, none⟩) 1 1 _ [(n, 0)] w6 hrP (by omega) (by decide) (by intro s hs; simp only [List.mem_singleton] at hs; subst hs; exact ⟨HN.out, by unfold is32; exact (by decide : 0 < 4294967296)⟩)
        have hwE : wordE [(n, 0)] = 0 := by rw [wordE_one, if_pos h24]
        have hpW : putW [(n, 0)] = 1 :: numB n ++ [0] := by unfold putW; rw [if_pos hwE, wordB_one]
        rw [hwE, hpW] at hputP
        have HB6 := Lib.hid (HB5.out.trans (hbP.mono HB5.out.size)); have HC6 := Lib.hid (own_below' HC5.out hbP); have HR6 := Lib.hid ((HR5.out.below hbP).more hbP.size); have HV6 := Lib.hid ((HV5.out.below hbP).more hbP.size)
        have HZ6 := Lib.hid (Nat.le_trans HZ5.out hbP.size)
        refine hputP.mono ?_
        clear hputP hrP hbP hzP hwE hpW HB5 HC5 HR5 HV5
        rintro e w7 ⟨v7, rfl, ho7, hb7⟩
        have hlen7 : List.length (1 :: numB n ++ [0]) = L + 1 := by rw [HLN.out]; simp
        rw [hlen7] at ho7
        clear hlen7
        obtain ⟨A7, c7, rfl, hn7, hc7, hr7⟩ := own_reads ho7
        have HB7 := Lib.hid (HB6.out.trans (hb7.mono HB6.out.size)); have HC7 := Lib.hid (own_below' HC6.out hb7); have HR7 := Lib.hid ((HR6.out.below hb7).more hb7.size); have HV7 := Lib.hid ((HV6.out.below hb7).more hb7.size); have HP7 := Lib.hid hr7
        have HZ7 := Lib.hid (Nat.le_trans HZ6.out hb7.size)
        clear ho7 hb7 hr7 HB6 HC6 HR6 HV6 HZ6 HZ5
        have hLL : (((L : Int) + 1) != ((L : Int) + 1)) = false := by simp
        go_wp2_with fail
        have hrP := reads_lit w7 24 2 1 [.int .u32 (n : Int), .int .u32 0] rfl
        have hbP := (Below.refl w7.heap.size w7).alloc (Nat.le_refl _) (.cells #[.int .u32 (n : Int), .int .u32 0] 24)
        have hzP : (w7.alloc (.cells #[.int .u32 (n : Int), .int .u32 0] 24)).heap.size = w7.heap.size + 1 := World.size_alloc _ _
        generalize w7.alloc (.cells #[.int .u32 (n : Int), .int .u32 0] 24) = wF at *
        have heF := wEqual_any A5 (some ⟨w7.heap.size, 0, none⟩) 1 1 c5 1 (w7.heap.size + 1) [(n, 0)] [(n, 0)] wF ((HV7.out.below hbP).more (by omega)) hrP (by omega) (by decide)
        rw [decide_eq_true rfl] at heF
        have HBF := Lib.hid (HB7.out.trans (hbP.mono HB7.out.size)); have HCF := Lib.hid (own_below' HC7.out hbP); have HRF := Lib.hid ((HR7.out.below hbP).more hbP.size); have HPF := Lib.hid ((HP7.out.below hbP).more hbP.size)
        have HZF := Lib.hid (Nat.le_trans HZ7.out hbP.size)
        refine heF.mono ?_
        clear heF hrP hbP hzP HB7 HC7 HR7 HV7 HP7 HZ7
        rintro e wG ⟨rfl, hbG⟩
        have HBG := Lib.hid (HBF.out.trans (hbG.mono HBF.out.size)); have HCG := Lib.hid (own_below' HCF.out hbG); have HRG := Lib.hid ((HRF.out.below hbG).more hbG.size); have HPG := Lib.hid ((HPF.out.below hbG).more hbG.size)
        have HZG := Lib.hid (Nat.le_trans HZF.out hbG.size)
        clear hbG HBF HCF HRF HPF HZF
        go_wp2_with fail
        refine (bytesEq_any A7 A4 _ _ c7 c4 _ (1 :: numB n ++ [0]) (1 :: numB n ++ [0]) _ HPG.out HRG.out HLT4.out HLT4.out).mono ?_
        rw [decide_eq_true rfl]
        rintro e wH ⟨rfl, rfl⟩
        clear HPG HRG HLT4
        obtain ⟨init, last, hl1, hl2, hl3⟩ := HLONG.out
        obtain ⟨p, hp⟩ : ∃ p, init.length + 1 = p := ⟨_, rfl⟩
        obtain ⟨z, hz⟩ : ∃ z, last + 128 = z := ⟨_, rfl⟩
        have hLp : L = p + 1 := by rw [HLN.out, hl1, List.length_append, List.length_singleton, hp]
        have hpI : (L : Int) - 1 = (p : Int) := by omega
        have hpL : (p : Int) < (L : Int) := by omega
        have hor : bits .or .u8 (last : Int) 128 = (z : Int) := by
          have h := u8_or_nat last 128 (by omega) (by decide)
          have e : last ||| 128 = last + 128 := by
            have h2 : ∀ m : Fin 128, m.val ||| 128 = m.val + 128 := by decide +kernel
            exact h2 ⟨last, hl2⟩
          rw [e, hz] at h
          exact h
        obtain ⟨q, rfl, hq, cur, hblk, hcur⟩ : ∃ q, A3 = some ⟨q, 0, none⟩ ∧ w2.heap.size ≤ q ∧ ∃ cur, Blk wG q 5 cur ∧ cur.toList.take L = (1 :: numB n).map bv := by
          rcases HCG.out.2 with ⟨h', h''⟩ | ⟨q, cap, cur, h', hb, hg', h3, h4, hs, ht⟩
          · exact absurd h'' (by omega)
          · simp only [Value.slice.injEq] at h'
            exact ⟨q, h'.1, hb, cur, hg', by rw [Nat.mul_one] at ht; exact ht⟩
        have hcell : wG.cell? ⟨q, p, none⟩ = some (.int .u8 (last : Int)) := by
          rw [hblk.cell p, ← Array.getElem?_toList]
          have := congrArg (fun l => l[p]?) hcur
          simp only [List.getElem?_take, if_pos (show p < L by omega)] at this
          rw [this, hl1, ← hp, List.map_cons, List.getElem?_cons_succ, List.getElem?_map, List.getElem?_concat_length]
          rfl
        have hfz := hblk.frozen p
        have hset := own_set (k := p) HCG.out (.int .u8 (z : Int))
        have hse : ((1 :: numB n).map bv).set p (.int .u8 (z : Int)) = (1 :: (init ++ [z])).map bv := by
          rw [hl1, ← hp, List.map_cons, List.set_cons_succ, List.map_append, List.set_append, if_neg (by simp), List.length_map, Nat.sub_self]
          simp
        rw [hse] at hset
        rw [hz] at hl3
        have hltz : ∀ b ∈ 1 :: (init ++ [z]) ++ [0, 0], b < 256 := by
          intro b hb
          have hNl := numB_lt n
          rw [hl1] at hNl
          simp only [List.mem_append, List.mem_cons, List.not_mem_nil, or_false] at hb hNl
          rcases hb with (h | h | h) | h | h
          · omega
          · exact hNl b (.inl h)
          · omega
          · omega
          · omega
        have hbS : Below w.heap.size w (wG.setCell ⟨q, p, none⟩ (.int .u8 (z : Int))) := HBG.out.setCell (by have := HZ2.out; show w.heap.size ≤ q; omega) _
        have hszS : (wG.setCell ⟨q, p, none⟩ (.int .u8 (z : Int))).heap.size = wG.heap.size := by simp [World.setCell]
        have hrn := reads_lit (wG.setCell ⟨q, p, none⟩ (.int .u8 (z : Int))) 5 1 2 [bv 0, bv 0] rfl
        rw [hszS] at hrn
        have HRN := Lib.hid hrn; have HSET := Lib.hid hset; have HBS := Lib.hid hbS; have HL3 := Lib.hid hl3; have HLZ := Lib.hid hltz; have HSZ := Lib.hid hszS; have HWZ := Lib.hid (show w2.heap.size ≤ wG.heap.size from (by have := HZ3.out; have := HZ4.out; have := HZG.out; omega))
        clear hrn hset hbS hl3 hltz hszS hblk hcur hse hl1 hz HLN HLONG hLp hp
        go_wp2_with (at_builtin; refine wpList_append_any _ rfl _ _ _ rfl w2.heap.size 5 i0 (.int .u8 0) 1 1 Tryd.underlying35 hi hz0 hz1 hz2 rfl (by decide) (.slice (some ⟨q, 0, none⟩) L c3) L ((1 :: (init ++ [z])).map bv) rfl (HSET.out.alloc _) (wG.heap.size + 1) _ _ _ [bv 0, bv 0] rfl HRN.out (by simp [Value.oneCell']) (by unfold maxLen; omega) (by omega) (by have := HSZ.out; have := HWZ.out; rw [World.size_alloc, HSZ.out]; omega) ?_; intro v8 w8 hown8 hgrow8 _; have HB8 := Lib.hid ((HBS.out.alloc HBS.out.size _).grown hgrow8 (by have := HBS.out.size; rw [World.size_alloc]; omega) (fun g hg => by have := (HSET.out.lt g hg).1; have := HZ2.out; omega)); have HO8 := Lib.hid hown8; obtain ⟨A8, c8, rfl, hn8, hc8⟩ := ownsRow_form hown8; clear hown8 hgrow8)
        have hr8 := Reads.of_own HO8.out
        rw [show (1 :: (init ++ [z])).map bv ++ [bv 0, bv 0] = (1 :: (init ++ [z]) ++ [0, 0]).map bv by simp] at hr8
        have hget8 := getWord_any w8 A8 (L + 2) c8 _ _ hr8 (Nat.le_refl _) hn8 hc8 (by omega) HLZ.out
        rw [HL3.out] at hget8
        refine hget8.mono ?_
        clear hget8 hr8
        rintro e w9 ⟨v9, rfl, _, hb9⟩
        have HB9 := Lib.hid (HB8.out.trans (hb9.mono HB8.out.size))
        clear hb9 HO8 HL3 HLZ HRN HSET hor hcell hfz
        have hc112 : ((16 + (n : Int) % 112) % 256) = ((16 + n % 112 : Nat) : Int) := by omega
        go_wp2_with fail
        have hcE : (16 + (n : Int) % 112) = ((16 + n % 112 : Nat) : Int) := by omega
        have hrA := reads_lit w9 5 1 7 [.int .u8 1, .int .u8 255, .int .u8 255, .int .u8 255, .int .u8 255, .int .u8 (16 + (n : Int) % 112), .int .u8 0] rfl
        have hbA := (Below.refl w9.heap.size w9).alloc (Nat.le_refl _) (.cells #[.int .u8 1, .int .u8 255, .int .u8 255, .int .u8 255, .int .u8 255, .int .u8 (16 + (n : Int) % 112), .int .u8 0] 5)
        have hzA : (w9.alloc (.cells #[.int .u8 1, .int .u8 255, .int .u8 255, .int .u8 255, .int .u8 255, .int .u8 (16 + (n : Int) % 112), .int .u8 0] 5)).heap.size = w9.heap.size + 1 := World.size_alloc _ _
        generalize w9.alloc (.cells #[.int .u8 1, .int .u8 255, .int .u8 255, .int .u8 255, .int .u8 255, .int .u8 (16 + (n : Int) % 112), .int .u8 0] 5) = wA at *
        rw [hcE] at hrA
        have hgetA := getWord_any wA (some ⟨w9.heap.size, 0, none⟩) 7 7 _ [1, 255, 255, 255, 255, 16 + n % 112, 0] hrA (by omega) (by decide) (by decide) (by decide) (by
          intro b hb
          simp only [List.mem_cons, List.not_mem_nil, or_false] at hb
          omega)
        rw [getW_big ⟨n % 112, Nat.mod_lt _ (by decide)⟩] at hgetA
        have HBA := Lib.hid (HB9.out.trans (hbA.mono HB9.out.size))
        refine hgetA.mono ?_
        clear hgetA hrA hbA hzA hcE hc112
        rintro e wB ⟨vB, rfl, _, hbB⟩
        have HBB := Lib.hid (HBA.out.trans (hbB.mono HBA.out.size))
        clear hbB
        go_wp2_with fail
        have hrC := reads_lit wB 5 1 8 [.int .u8 1, .int .u8 255, .int .u8 255, .int .u8 255, .int .u8 255, .int .u8 143, .int .u8 0, .int .u8 0] rfl
        have hbC := (Below.refl wB.heap.size wB).alloc (Nat.le_refl _) (.cells #[.int .u8 1, .int .u8 255, .int .u8 255, .int .u8 255, .int .u8 255, .int .u8 143, .int .u8 0, .int .u8 0] 5)
        have hzC : (wB.alloc (.cells #[.int .u8 1, .int .u8 255, .int .u8 255, .int .u8 255, .int .u8 255, .int .u8 143, .int .u8 0, .int .u8 0] 5)).heap.size = wB.heap.size + 1 := World.size_alloc _ _
        generalize wB.alloc (.cells #[.int .u8 1, .int .u8 255, .int .u8 255, .int .u8 255, .int .u8 255, .int .u8 143, .int .u8 0, .int .u8 0] 5) = wC at *
        have hgetC := getWord_any wC (some ⟨wB.heap.size, 0, none⟩) 8 8 _ [1, 255, 255, 255, 255, 143, 0, 0] hrC (by omega) (by decide) (by decide) (by decide) (bv_lt_of (by decide))
        rw [getW_zero] at hgetC
        have HBC' := Lib.hid (HBB.out.trans (hbC.mono HBB.out.size))
        refine hgetC.mono ?_
        clear hgetC hrC hbC hzC
        rintro e wD ⟨vD, rfl, _, hbD⟩
        have HBD := Lib.hid (HBC'.out.trans (hbD.mono HBC'.out.size))
        clear hbD
        go_wp2_with fail
        refine (HWK.out _).mono ?_
        rintro e wE ⟨rfl, hbE⟩
        have HBE := Lib.hid (HBD.out.trans (hbE.mono HBD.out.size))
        clear hbE
        go_wp2
        go_ret
        exact ⟨rfl, HBE.out⟩
      · rw [if_neg h24] at hget
        have hsh : ((n : Int) / 16777216 != 0) = true := by rw [bne_iff_ne]; omega
        refine hget.mono ?_
        clear hget
        rintro e w5 ⟨v5, rfl, ho5, hb5⟩
        obtain ⟨A5, c5, rfl, hn5, hc5⟩ := ownsRow_form ho5
        have HC5 := Lib.hid (own_below' HC4.out hb5)
        have HB5 := Lib.hid (HB4.out.trans (hb5.mono HB4.out.size)); have HZ5 := Lib.hid hb5.size
        clear ho5 hb5 HC4 HB4 HR4 HLT4
        obtain ⟨init, last, hl1, hl2, hl3⟩ := HLONG.out
        obtain ⟨p, hp⟩ : ∃ p, init.length + 1 = p := ⟨_, rfl⟩
        obtain ⟨z, hz⟩ : ∃ z, last + 128 = z := ⟨_, rfl⟩
        have hLp : L = p + 1 := by rw [HLN.out, hl1, List.length_append, List.length_singleton, hp]
        have hpI : (L : Int) - 1 = (p : Int) := by omega
        have hpL : (p : Int) < (L : Int) := by omega
        have hor : bits .or .u8 (last : Int) 128 = (z : Int) := by
          have h := u8_or_nat last 128 (by omega) (by decide)
          have e : last ||| 128 = last + 128 := by
            have h2 : ∀ m : Fin 128, m.val ||| 128 = m.val + 128 := by decide +kernel
            exact h2 ⟨last, hl2⟩
          rw [e, hz] at h
          exact h
        obtain ⟨q, rfl, hq, cur, hblk, hcur⟩ : ∃ q, A3 = some ⟨q, 0, none⟩ ∧ w2.heap.size ≤ q ∧ ∃ cur, Blk w5 q 5 cur ∧ cur.toList.take L = (1 :: numB n).map bv := by
          rcases HC5.out.2 with ⟨h', h''⟩ | ⟨q, cap, cur, h', hb, hg', h3, h4, hs, ht⟩
          · exact absurd h'' (by omega)
          · simp only [Value.slice.injEq] at h'
            exact ⟨q, h'.1, hb, cur, hg', by rw [Nat.mul_one] at ht; exact ht⟩
        have hcell : w5.cell? ⟨q, p, none⟩ = some (.int .u8 (last : Int)) := by
          rw [hblk.cell p, ← Array.getElem?_toList]
          have := congrArg (fun l => l[p]?) hcur
          simp only [List.getElem?_take, if_pos (show p < L by omega)] at this
          rw [this, hl1, ← hp, List.map_cons, List.getElem?_cons_succ, List.getElem?_map, List.getElem?_concat_length]
          rfl
        have hfz := hblk.frozen p
        have hset := own_set (k := p) HC5.out (.int .u8 (z : Int))
        have hse : ((1 :: numB n).map bv).set p (.int .u8 (z : Int)) = (1 :: (init ++ [z])).map bv := by
          rw [hl1, ← hp, List.map_cons, List.set_cons_succ, List.map_append, List.set_append, if_neg (by simp), List.length_map, Nat.sub_self]
          simp
        rw [hse] at hset
        rw [hz] at hl3
        have hltz : ∀ b ∈ 1 :: (init ++ [z]) ++ [0, 0], b < 256 := by
          intro b hb
          have hNl := numB_lt n
          rw [hl1] at hNl
          simp only [List.mem_append, List.mem_cons, List.not_mem_nil, or_false] at hb hNl
          rcases hb with (h | h | h) | h | h
          · omega
          · exact hNl b (.inl h)
          · omega
          · omega
          · omega
        have hbS : Below w.heap.size w (w5.setCell ⟨q, p, none⟩ (.int .u8 (z : Int))) := HB5.out.setCell (by have := HZ2.out; show w.heap.size ≤ q; omega) _
        have hszS : (w5.setCell ⟨q, p, none⟩ (.int .u8 (z : Int))).heap.size = w5.heap.size := by simp [World.setCell]
        have hrn := reads_lit (w5.setCell ⟨q, p, none⟩ (.int .u8 (z : Int))) 5 1 2 [bv 0, bv 0] rfl
        rw [hszS] at hrn
        have HRN := Lib.hid hrn; have HSET := Lib.hid hset; have HBS := Lib.hid hbS; have HL3 := Lib.hid hl3; have HLZ := Lib.hid hltz; have HSZ := Lib.hid hszS; have HWZ := Lib.hid (show w2.heap.size ≤ w5.heap.size from (by have := HZ3.out; have := HZ4.out; have := HZ5.out; omega))
        clear hrn hset hbS hl3 hltz hszS hblk hcur hse hl1 hz HLN HLONG hLp hp
        go_wp2_with (at_builtin; refine wpList_append_any _ rfl _ _ _ rfl w2.heap.size 5 i0 (.int .u8 0) 1 1 Tryd.underlying35 hi hz0 hz1 hz2 rfl (by decide) (.slice (some ⟨q, 0, none⟩) L c3) L ((1 :: (init ++ [z])).map bv) rfl (HSET.out.alloc _) (w5.heap.size + 1) _ _ _ [bv 0, bv 0] rfl HRN.out (by simp [Value.oneCell']) (by unfold maxLen; omega) (by omega) (by have := HSZ.out; have := HWZ.out; rw [World.size_alloc, HSZ.out]; omega) ?_; intro v8 w8 hown8 hgrow8 _; have HB8 := Lib.hid ((HBS.out.alloc HBS.out.size _).grown hgrow8 (by have := HBS.out.size; rw [World.size_alloc]; omega) (fun g hg => by have := (HSET.out.lt g hg).1; have := HZ2.out; omega)); have HO8 := Lib.hid hown8; obtain ⟨A8, c8, rfl, hn8, hc8⟩ := ownsRow_form hown8; clear hown8 hgrow8)
        have hr8 := Reads.of_own HO8.out
        rw [show (1 :: (init ++ [z])).map bv ++ [bv 0, bv 0] = (1 :: (init ++ [z]) ++ [0, 0]).map bv by simp] at hr8
        have hget8 := getWord_any w8 A8 (L + 2) c8 _ _ hr8 (Nat.le_refl _) hn8 hc8 (by omega) HLZ.out
        rw [HL3.out] at hget8
        refine hget8.mono ?_
        clear hget8 hr8
        rintro e w9 ⟨v9, rfl, _, hb9⟩
        have HB9 := Lib.hid (HB8.out.trans (hb9.mono HB8.out.size))
        clear hb9 HO8 HL3 HLZ HRN HSET hor hcell hfz
        have hc112 : ((16 + (n : Int) % 112) % 256) = ((16 + n % 112 : Nat) : Int) := by omega
        go_wp2_with fail
        have hcE : (16 + (n : Int) % 112) = ((16 + n % 112 : Nat) : Int) := by omega
        have hrA := reads_lit w9 5 1 7 [.int .u8 1, .int .u8 255, .int .u8 255, .int .u8 255, .int .u8 255, .int .u8 (16 + (n : Int) % 112), .int .u8 0] rfl
        have hbA := (Below.refl w9.heap.size w9).alloc (Nat.le_refl _) (.cells #[.int .u8 1, .int .u8 255, .int .u8 255, .int .u8 255, .int .u8 255, .int .u8 (16 + (n : Int) % 112), .int .u8 0] 5)
        have hzA : (w9.alloc (.cells #[.int .u8 1, .int .u8 255, .int .u8 255, .int .u8 255, .int .u8 255, .int .u8 (16 + (n : Int) % 112), .int .u8 0] 5)).heap.size = w9.heap.size + 1 := World.size_alloc _ _
        generalize w9.alloc (.cells #[.int .u8 1, .int .u8 255, .int .u8 255, .int .u8 255, .int .u8 255, .int .u8 (16 + (n : Int) % 112), .int .u8 0] 5) = wA at *
        rw [hcE] at hrA
        have hgetA := getWord_any wA (some ⟨w9.heap.size, 0, none⟩) 7 7 _ [1, 255, 255, 255, 255, 16 + n % 112, 0] hrA (by omega) (by decide) (by decide) (by decide) (by
          intro b hb
          simp only [List.mem_cons, List.not_mem_nil, or_false] at hb
          omega)
        rw [getW_big ⟨n % 112, Nat.mod_lt _ (by decide)⟩] at hgetA
        have HBA := Lib.hid (HB9.out.trans (hbA.mono HB9.out.size))
        refine hgetA.mono ?_
        clear hgetA hrA hbA hzA hcE hc112
        rintro e wB ⟨vB, rfl, _, hbB⟩
        have HBB := Lib.hid (HBA.out.trans (hbB.mono HBA.out.size))
        clear hbB
        go_wp2_with fail
        have hrC := reads_lit wB 5 1 8 [.int .u8 1, .int .u8 255, .int .u8 255, .int .u8 255, .int .u8 255, .int .u8 143, .int .u8 0, .int .u8 0] rfl
        have hbC := (Below.refl wB.heap.size wB).alloc (Nat.le_refl _) (.cells #[.int .u8 1, .int .u8 255, .int .u8 255, .int .u8 255, .int .u8 255, .int .u8 143, .int .u8 0, .int .u8 0] 5)
        have hzC : (wB.alloc (.cells #[.int .u8 1, .int .u8 255, .int .u8 255, .int .u8 255, .int .u8 255, .int .u8 143, .int .u8 0, .int .u8 0] 5)).heap.size = wB.heap.size + 1 := World.size_alloc _ _
        generalize wB.alloc (.cells #[.int .u8 1, .int .u8 255, .int .u8 255, .int .u8 255, .int .u8 255, .int .u8 143, .int .u8 0, .int .u8 0] 5) = wC at *
        have hgetC := getWord_any wC (some ⟨wB.heap.size, 0, none⟩) 8 8 _ [1, 255, 255, 255, 255, 143, 0, 0] hrC (by omega) (by decide) (by decide) (by decide) (bv_lt_of (by decide))
        rw [getW_zero] at hgetC
        have HBC' := Lib.hid (HBB.out.trans (hbC.mono HBB.out.size))
        refine hgetC.mono ?_
        clear hgetC hrC hbC hzC
        rintro e wD ⟨vD, rfl, _, hbD⟩
        have HBD := Lib.hid (HBC'.out.trans (hbD.mono HBC'.out.size))
        clear hbD
        go_wp2_with fail
        refine (HWK.out _).mono ?_
        rintro e wE ⟨rfl, hbE⟩
        have HBE := Lib.hid (HBD.out.trans (hbE.mono HBD.out.size))
        clear hbE
        go_wp2
        go_ret
        exact ⟨rfl, HBE.out⟩
    · have hltI : ¬ (m : Int) < 128 := by omega
      have hl7 := low7 (n := m)
      have hrn := reads_lit wr 5 1 1 [bv (m % 128 + 128)] rfl
      have HRN := Lib.hid hrn
      clear hrn
      go_wp2_with (at_builtin; refine wpList_append_any _ rfl _ _ _ rfl w.heap.size 5 i0 (.int .u8 0) 1 1 Tryd.underlying35 hi hz0 hz1 hz2 rfl (by decide) _ _ _ rfl (HO.out.alloc _) (wr.heap.size + 1) _ _ _ [bv (m % 128 + 128)] rfl HRN.out (by simp [Value.oneCell']) (by unfold maxLen; omega) (by omega) (by have := HBW.out.size; simp; omega) ?_; intro v2 w2 hown2 hgrow2 _; have HB2 := Lib.hid ((HBW.out.alloc HBW.out.size _).grown hgrow2 (by have := HBW.out.size; simp; omega) (fun g hg => (HO.out.lt g hg).1)); have HO2 := Lib.hid hown2; clear hown2 hgrow2)
      go_roundw
      case rel =>
        cases j with
        | zero => have := HMJ.out; rw [Nat.zero_add, Nat.pow_one] at this; omega
        | succ j =>
          have hz := HZ.out
          rw [numK, if_neg (by omega)] at hz
          refine ⟨m / 128, j, zs ++ [m % 128 + 128], by rfl, by omega, by rw [List.length_append, List.length_singleton]; omega, ?_, by rw [List.append_assoc]; exact hz, ?_, HB2.out⟩
          · have := HMJ.out; rw [Nat.pow_succ] at this; omega
          · have := HO2.out
            rw [← List.map_singleton (f := bv), ← List.map_append, List.cons_append] at this
            rw [List.length_append, List.length_singleton, ← Nat.add_assoc]
            exact this
      case measure => simp [RowKit.intOf]; omega
end Go.Proofs.YtipfhamhiaeieaaDoor
