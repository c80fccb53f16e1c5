/-
  PackWordBack: the walk. Conditions: a word and bytes that can be read.
-/
import Derived.Test.YtipfhamhiaeieaaDoorPkE2
import Derived.Test.YtipfhamhiaeieaaDoorPkCl
import Derived.Test.YtipfhamhiaeieaaDoorPkLb
namespace Go.Proofs.YtipfhamhiaeieaaDoor
open Go.RowKit Go.Lib

theorem u8s_eq (xs : List UInt8) : (xs.map fun b => Value.int .u8 b.toNat) = (xs.map UInt8.toNat).map bv := by rw [List.map_map]; rfl
theorem u8s_one (xs : List UInt8) : ∀ u ∈ (xs.map fun b => Value.int .u8 (b.toNat : Int)), u.oneCell' = true := by
  intro u hu; obtain ⟨x, _, rfl⟩ := List.mem_map.1 hu; rfl
theorem putW_len {ws : List Snd} (h : wordE ws = 0) : (putW ws).length ≤ 1000 := by
  have hl := wordE_len h
  unfold putW
  rw [if_pos h]
  have key : ∀ n, (numB n).length ≤ 5 := numB_len
  have hs : ∀ l : List Snd, (l.flatMap sndB).length ≤ l.length * 10 := by
    intro l
    induction l with
    | nil => simp
    | cons s l ih =>
      have e : (sndB s).length ≤ 10 := by
        show (numB s.1 ++ numB s.2).length ≤ 10
        rw [List.length_append]; have := key s.1; have := key s.2; omega
      rw [List.flatMap_cons, List.length_append, List.length_cons]; omega
  show (numB ws.length ++ ws.flatMap sndB).length ≤ 1000
  rw [List.length_append]
  have := key ws.length; have := hs ws; omega
set_option maxRecDepth 20000 in
set_option maxHeartbeats 4000000 in
theorem packWordBack_law (A A' : Option Addr) (n c m d : Nat) (ws : List Snd) (xs : List UInt8) (w : World) (hr : Reads w w.heap.size 2 A n (ws.flatMap sndC)) (hok : ∀ s ∈ ws, ok32 s) (hn : n ≤ maxLen) (hx : ReadB w w.heap.size A' m xs) (hm : m ≤ maxLen) :
    Calls Tryd.prog 7 #[.slice A n c, .slice A' m d] w fun e w' => e = .returned (.bool true) ∧ Below w.heap.size w w' := by
  obtain ⟨i0, hi, hz0, hz1, hz2⟩ := info_parts (show (Tryd.prog.info? 5).map (fun i => (i.zero, i.size, i.bytes)) = some (some (.int .u8 0), 1, 1) by kernel_rfl)
  have hp := putWord_any A n c _ ws w hr (Nat.le_refl _) hn hok
  have hq := fun (W : World) (hb : Below w.heap.size w W) => wordCheck_any A n c _ ws W (hr.below hb) hb.size hn hok
  have hlt := putW_lt ws
  have HWK := Lib.hid works_any
  have hno : wordE ws ≠ 0 → putW ws = [] := fun h => if_neg h
  have hlen := putW_len (ws := ws)
  have hback := fun h r => putW_back (ws := ws) hok h r
  have hpart := fun h i hi => putW_part (ws := ws) hok h (i := i) hi
  have hm256 : ∀ b ∈ xs.map UInt8.toNat, b < 256 := fun c hc => by obtain ⟨x, _, rfl⟩ := List.mem_map.1 hc; exact x.toNat_lt
  replace hx : Reads w w.heap.size 1 A' m ((xs.map UInt8.toNat).map bv) := by rw [← u8s_eq]; exact hx
  generalize xs.map UInt8.toNat = ms at *
  have HMS := Lib.hid hm256
  obtain ⟨bs, hbs⟩ : ∃ bs, putW ws = bs := ⟨_, rfl⟩
  obtain ⟨x, hx0⟩ : ∃ x, wordE ws = x := ⟨_, rfl⟩
  rw [hbs, hx0] at hp
  simp only [hx0] at hq
  rw [hbs] at hlt
  rw [hbs, hx0] at hno hlen
  simp only [hbs, hx0] at hback hpart
  have HP := Lib.hid hp; have HQ := Lib.hid hq; have HLT := Lib.hid hlt; have HNO := Lib.hid hno; have HLEN := Lib.hid hlen; have HBACK := Lib.hid hback; have HPART := Lib.hid hpart; have HX := Lib.hid hx; have HR := Lib.hid hr
  clear hm256 hr hok hp hq hlt hno hlen hback hpart hx hbs hx0
  unfold maxLen at hn hm
  by_cases hg : (100 : Int) < n
  · go_enter Tryd.func7, Tryd.ntmps7
    go_wp2_with fail
    refine (HWK.out _).mono ?_
    rintro e w1 ⟨rfl, hb⟩
    have HB := Lib.hid hb
    clear hb
    go_wp2
    go_ret
    exact ⟨rfl, HB.out⟩
  by_cases hg2 : (100 : Int) < m
  · go_enter Tryd.func7, Tryd.ntmps7
    go_wp2_with fail
    refine (HWK.out _).mono ?_
    rintro e w1 ⟨rfl, hb⟩
    have HB := Lib.hid hb
    clear hb
    go_wp2
    go_ret
    exact ⟨rfl, HB.out⟩
  go_enter Tryd.func7, Tryd.ntmps7
  go_wp2_with fail
  refine HP.out.mono ?_
  rintro e w1 ⟨v1, rfl, ho1, hb1⟩
  obtain ⟨A1, c1, rfl, hn1, hc1, hr1⟩ := own_reads ho1
  have HB1 := Lib.hid hb1; have HR1 := Lib.hid hr1
  clear hb1 hr1 ho1
  go_wp2_with fail
  refine (HQ.out _ HB1.out).mono ?_
  rintro e w2 ⟨rfl, hb2⟩
  have hxx : (x != x) = false := by simp
  have hz := hb2.size
  have HR2 := Lib.hid ((HR1.out.below hb2).more hz)
  have HB2 := Lib.hid (HB1.out.trans (hb2.mono HB1.out.size))
  clear hb2 hz HP HQ HR1
  by_cases h0 : x = 0
  case neg =>
    have hnil := HNO.out h0
    subst hnil
    have hx0 : (x != 0) = true := by simpa using h0
    go_wp2_with fail
    refine (HWK.out _).mono ?_
    rintro e w3 ⟨rfl, hb⟩
    have HB := Lib.hid (HB2.out.trans (hb.mono HB2.out.size))
    clear hb
    go_wp2
    go_ret
    exact ⟨rfl, HB.out⟩
  subst h0
  have hL := HLEN.out rfl
  have HBK := Lib.hid (HBACK.out rfl)
  have HPT := Lib.hid (HPART.out rfl)
  clear HBACK HPART HLEN HNO
  go_wp2_with fail
  refine (cloneB_any A1 _ c1 _ w2 _ HR2.out (bv_one bs) (Nat.le_refl _) (by omega)).mono ?_
  rintro e w3 ⟨v3, rfl, ho3, hb3⟩
  obtain ⟨A3, c3, rfl, hn3, hc3⟩ := ownsRow_form ho3
  have hz := hb3.size
  have HB3 := Lib.hid (HB2.out.trans (hb3.mono HB2.out.size)); have HR3 := Lib.hid ((HR2.out.below hb3).more hz)
  have HO3 := Lib.hid ho3; have HZ3 := Lib.hid (show w.heap.size ≤ w2.heap.size from HB2.out.size); have HW3 := Lib.hid (show w2.heap.size ≤ w3.heap.size from hz)
  have HBC := Lib.hid hb3
  clear ho3 hb3 hz
  go_wp2_with (at_builtin; refine wpList_append_any _ rfl _ _ _ rfl w2.heap.size 5 i0 (.int .u8 0) 1 1 Tryd.underlying35 hi hz0 hz1 hz2 rfl (by decide) _ _ _ rfl HO3.out w.heap.size _ _ _ (ms.map bv) rfl (Reads.below HX.out HB3.out) (bv_one ms) (by unfold maxLen; omega) (by omega) (by have := HB3.out.size; have := HW3.out; omega) ?_; intro v4 w4 hown4 hgrow4 _; have HBD := Lib.hid (HBC.out.grown hgrow4 HW3.out (fun g hg => (HO3.out.lt g hg).1)); have HO4 := Lib.hid hown4; obtain ⟨A4, c4, rfl, hn4, hc4⟩ := ownsRow_form hown4; clear hown4 hgrow4)
  have hr4 := Reads.of_own HO4.out
  rw [← List.map_append] at hr4
  have hget := getWord_any w4 A4 _ c4 _ (bs ++ ms) hr4 (Nat.le_refl _) hn4 hc4 (by omega) (fun b hb => by
    rcases List.mem_append.1 hb with h | h
    · exact HLT.out b h
    · exact HMS.out b h)
  rw [HBK.out] at hget
  have HB4 := Lib.hid (HB2.out.trans (HBD.out.mono HZ3.out)); have HR4 := Lib.hid ((HR2.out.below HBD.out).more HBD.out.size)
  clear hr4 HO4 HO3 HR3 HR2 HB3 HB2
  refine hget.mono ?_
  clear hget
  rintro e w5 ⟨v5, rfl, ho5, hb5⟩
  obtain ⟨A5, c5, rfl, hn5, hc5, hr5⟩ := own_reads ho5
  have hz5 := hb5.size
  have HB5 := Lib.hid (HB4.out.trans (hb5.mono HB4.out.size)); have HR5 := Lib.hid ((HR4.out.below hb5).more hz5); have HV5 := Lib.hid hr5
  clear ho5 hb5 hr5 hz5 HR4 HB4
  have hll : (((bs.length : Nat) : Int) != (bs.length : Nat)) = false := by simp
  go_wp2_with fail
  refine (wEqual_any A5 A _ n c5 c w5.heap.size ws ws w5 HV5.out ((HR.out.below HB5.out).more HB5.out.size) (Nat.le_refl _) (by unfold maxLen at hc5 ⊢; omega)).mono ?_
  rw [decide_eq_true rfl]
  rintro e w6 ⟨rfl, hb6⟩
  have hz6 := hb6.size
  have HB6 := Lib.hid (HB5.out.trans (hb6.mono HB5.out.size)); have HR6 := Lib.hid ((HR5.out.below hb6).more hz6)
  clear hb6 hz6 HR5 HB5 HV5
  go_wp2_with fail
  go_loopw [65] (fun i wr => ∃ k : Nat, k ≤ bs.length ∧ i = .int .i64 k ∧ Below w6.heap.size w6 wr) (fun i _ => bs.length - (RowKit.intOf i).toNat)
  case atStart => exact ⟨0, by omega, rfl, Below.refl _ _⟩
  case round =>
    obtain ⟨k, hk, rfl, hbw⟩ := hrel
    have HBW := Lib.hid hbw
    clear hbw
    by_cases hlt : k < bs.length
    · have hkI : (k : Int) < (bs.length : Int) := by omega
      have hkc : (k : Int) ≤ (c1 : Int) := by omega
      have hpre := Reads.pre (m := k) (HR6.out.below HBW.out) (by omega)
      obtain ⟨ad, rfl, had, _⟩ := HR6.out.2 (by omega)
      rw [Nat.mul_one, ← List.map_take] at hpre
      have HPRE := Lib.hid hpre
      clear hpre
      go_wp2_with fail
      have hget := getWord_any wr (some ad) k c1 w6.heap.size (bs.take k) HPRE.out HBW.out.size (by omega) hc1 (by omega) (fun b hb => HLT.out b (List.mem_of_mem_take hb))
      rw [HPT.out k hlt] at hget
      refine hget.mono ?_
      clear hget
      rintro e w7 ⟨v7, rfl, ho7, hb7⟩
      have HB7 := Lib.hid (HBW.out.trans (hb7.mono HBW.out.size))
      clear ho7 hb7
      go_wp2
      go_roundw
      case rel => exact ⟨k + 1, by omega, by go_num, HB7.out⟩
      case measure => simp [RowKit.intOf]; omega
    · obtain rfl : k = bs.length := by omega
      go_wp2_with fail
      refine (HWK.out _).mono ?_
      rintro e w7 ⟨rfl, hb⟩
      have HB := Lib.hid (HB6.out.trans ((HBW.out.trans (hb.mono HBW.out.size)).mono HB6.out.size))
      clear hb
      go_wp2
      go_ret
      exact ⟨rfl, HB.out⟩
end Go.Proofs.YtipfhamhiaeieaaDoor
