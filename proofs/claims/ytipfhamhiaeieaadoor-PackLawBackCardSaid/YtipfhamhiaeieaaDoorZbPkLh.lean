/-
  PackLawBack: the walk. Conditions: a law and bytes that can be read.
-/
import Derived.Test.YtipfhamhiaeieaaDoorZbal
import Derived.Test.YtipfhamhiaeieaaDoorZbam
import Derived.Test.YtipfhamhiaeieaaDoorZbao
namespace Go.Proofs.YtipfhamhiaeieaaDoor
open Go.RowKit Go.Lib

/-- A row's beginning, as it is sliced. -/
theorem Reads.pref {w : World} {B n : Nat} {A : Option Addr} {bs : List Nat} {k : Nat} (h : Reads w B 1 A n (bs.map bv)) (hk : k ≤ bs.length) : Reads w B 1 A k ((bs.take k).map bv) := by
  have := Reads.pre (m := k) h (by have := h.1; simp at this; omega)
  rw [Nat.mul_one, ← List.map_take] at this
  exact this
/-- A law's load behind a guard that holds. -/
theorem law_loadG {ops : Array Oper} {rest : List Oper} {o : Oper} {a : Act} {w : World} {Q : Exit → Act → World → Prop} (hgd : Region.wanted o (yielded ops a.tmps) = true) (x : Operand) (ho : o.op = .load 31 x)
    (g : Nat) (hx : a.eval x = .pointer (some ⟨g, 0, none⟩)) (cs : List Value) (hlen : cs.length = 18) (hg : w.heap[g]? = some (.cells cs.toArray 31 (0, 0)))
    (h : wpList Tryd.prog ops Q rest (a.put o.dst (.agg cs.toArray)) w) : wpList Tryd.prog ops Q (o :: rest) a w := by
  obtain ⟨fs, hfs⟩ := law_under
  exact wpList_step fun K hK => by rw [if_pos hgd]; exact wp_load_row _ x ho g hx _ _ _ _ hg hfs rfl (by rw [law_info, List.size_toArray, hlen]) (hK _ _ h)
set_option maxRecDepth 20000 in
set_option maxHeartbeats 8000000 in
theorem packLawBack_law (w : World) (l : Lw) (cs : List Value) (hl : LawC w w.heap.size l cs) (hnm : l.name.size ≤ maxLen) (A' : Option Addr) (m d : Nat) (xs : List UInt8) (hx : ReadB w w.heap.size A' m xs) (hm : m ≤ maxLen) :
    Calls Tryd.prog 10 #[.agg cs.toArray, .slice A' m d] w fun e w' => e = .returned (.bool true) ∧ Below w.heap.size w w' := by
  obtain ⟨i0, hi, hz0, hz1, hz2⟩ := info_parts (show (Tryd.prog.info? 5).map (fun i => (i.zero, i.size, i.bytes)) = some (some (.int .u8 0), 1, 1) by kernel_rfl)
  have hlen := law_len hl
  have hli := fun W hW => light_any W w.heap.size l _ (hl.below (hW : Below w.heap.size w W)) hnm
  have hp := fun W (hW : Below w.heap.size w W) => putLaw_any W w.heap.size l _ (hl.below hW) hW.size hnm
  have hck := fun W (hW : Below w.heap.size w W) => lawCheck_any W w.heap.size l _ (hl.below hW) hW.size hnm
  have hsm := fun W cs2 (hW : Below w.heap.size w W) (h2 : LawC W W.heap.size l cs2) => sameLaw_any W W.heap.size l cs cs2 ((hl.below hW).more hW.size) h2 (Nat.le_refl _) hnm
  have hlt := putL_lt l
  have hbl := putL_len hl
  have hno : lawE l ≠ 0 → putL l = [] ∧ lawE l = 17 := fun h => by
    cases hok : lawOk l with
    | false => exact ⟨by unfold putL; rw [hok]; rfl, lawE_no hok⟩
    | true => exact absurd (lawE_yes hok) h
  have hbk : lawE l = 0 → (∀ r, getL (putL l ++ r) = (l, (putL l).length, 0)) ∧ ∀ k, k < (putL l).length → getL ((putL l).take k) = (noL, 0, 10) := fun h => by
    have hok : lawOk l = true := by
      cases hok : lawOk l with
      | false => rw [lawE_no hok] at h; cases h
      | true => rfl
    have e : putL l = lawB l := by unfold putL; rw [hok]; rfl
    rw [e]
    exact ⟨fun r => getL_back hl hok r, fun k hk => getL_part hl hok hk⟩
  have hbel0 := (Below.refl w.heap.size w).alloc (Nat.le_refl _) (.cells cs.toArray 31)
  have hb0 := Blk.new w 31 cs.toArray
  have HWK := Lib.hid works_any
  have hm256 : ∀ b ∈ xs.map UInt8.toNat, b < 256 := fun _ hc => by obtain ⟨x, _, rfl⟩ := List.mem_map.1 hc; exact x.toNat_lt
  replace hx : Reads w w.heap.size 1 A' m ((xs.map UInt8.toNat).map bv) := by rw [← u8s_eq]; exact hx
  generalize xs.map UInt8.toNat = ms at *
  obtain ⟨zl, hzl, hzlen, hzone⟩ : ∃ zl : List Value, zeroL = zl ∧ zl.length = 18 ∧ ∀ u ∈ zl, u.oneCell' = true := ⟨zeroL, rfl, rfl, by decide⟩
  obtain ⟨x, hx0⟩ : ∃ x, lawE l = x := ⟨_, rfl⟩
  obtain ⟨bs, hbs⟩ : ∃ bs, putL l = bs := ⟨_, rfl⟩
  obtain ⟨lt, hlt2⟩ : ∃ b, lightL l = b := ⟨_, rfl⟩
  simp only [hx0, hbs, hlt2] at hli hp hck hlt hbl hno hbk
  have HLEN := Lib.hid hlen; have HLI := Lib.hid hli; have HP := Lib.hid hp; have HCK := Lib.hid hck; have HSM := Lib.hid hsm; have HLT := Lib.hid hlt; have HBL := Lib.hid hbl; have HNO := Lib.hid hno; have HBK := Lib.hid hbk; have HE0 := Lib.hid hbel0; have HB0 := Lib.hid hb0; have HMS := Lib.hid hm256; have HX := Lib.hid hx; have HQV := Lib.hid hzl; have HQLEN := Lib.hid hzlen; have HQONE := Lib.hid hzone
  clear hlen hli hp hck hsm hlt hbl hno hbk hbel0 hb0 hm256 hx hzl hzlen hzone hx0 hbs hlt2 hl
  unfold maxLen at hm
  go_enter Tryd.func10, Tryd.ntmps10
  go_wp2_with (refine law_load rfl _ rfl _ rfl _ HLEN.out HB0.out ?_; simp only [Act.put, List.setIfInBounds_toArray, List.set_cons_zero, List.set_cons_succ])
  refine (HLI.out _ HE0.out).mono ?_
  rintro e w1 ⟨rfl, hb1⟩
  have HE1 := Lib.hid (HE0.out.trans (hb1.mono HE0.out.size)); have HB1 := Lib.hid (HB0.out.below hb1 HB0.out.lt)
  clear hb1
  cases lt
  · go_wp2_with fail
    refine (HWK.out _).mono ?_
    rintro e w9 ⟨rfl, hb⟩
    have HB := Lib.hid (HE1.out.trans (hb.mono HE1.out.size))
    clear hb
    go_wp2
    go_ret
    exact ⟨rfl, HB.out⟩
  by_cases hg2 : (100 : Int) < m
  · go_wp2_with fail
    refine (HWK.out _).mono ?_
    rintro e w9 ⟨rfl, hb⟩
    have HB := Lib.hid (HE1.out.trans (hb.mono HE1.out.size))
    clear hb
    go_wp2
    go_ret
    exact ⟨rfl, HB.out⟩
  go_wp2_with (refine law_load rfl _ rfl _ rfl _ HLEN.out HB1.out ?_; simp only [Act.put, List.setIfInBounds_toArray, List.set_cons_zero, List.set_cons_succ])
  refine (HP.out _ HE1.out).mono ?_
  rintro e w2 ⟨v2, rfl, ho2, hb2⟩
  obtain ⟨A2, c2, rfl, hn2, hc2, hr2⟩ := own_reads ho2
  have HE2 := Lib.hid (HE1.out.trans (hb2.mono HE1.out.size)); have HB2 := Lib.hid (HB1.out.below hb2 HB1.out.lt); have HR2 := Lib.hid hr2
  clear hb2 ho2 hr2
  by_cases h0 : x = 0
  case neg =>
    obtain ⟨rfl, rfl⟩ := HNO.out h0
    simp only [List.length_nil]
    clear h0
    go_wp2_with (refine law_loadG rfl _ rfl _ rfl _ HLEN.out HB2.out ?_; simp only [Act.put, List.setIfInBounds_toArray, List.set_cons_zero, List.set_cons_succ])
    refine (HCK.out _ HE2.out).mono ?_
    rintro e w3 ⟨rfl, hb3⟩
    have HE3 := Lib.hid (HE2.out.trans (hb3.mono HE2.out.size))
    clear hb3
    go_wp2_with fail
    refine (HWK.out _).mono ?_
    rintro e w9 ⟨rfl, hb⟩
    have HB := Lib.hid (HE3.out.trans (hb.mono HE3.out.size))
    clear hb
    go_wp2
    go_ret
    exact ⟨rfl, HB.out⟩
  subst h0
  obtain ⟨hback, hpart⟩ := HBK.out rfl
  have hL := HBL.out
  have HBACK := Lib.hid hback; have HPART := Lib.hid hpart
  clear hback hpart HBK HNO
  go_wp2_with fail
  refine (cloneB_any A2 _ c2 _ w2 _ HR2.out (bv_one bs) (Nat.le_refl _) (by omega)).mono ?_
  rintro e w3 ⟨v3, rfl, ho3, hb3⟩
  obtain ⟨A3, c3, rfl, hn3, hc3⟩ := ownsRow_form ho3
  have hz := hb3.size
  have HE3 := Lib.hid (HE2.out.trans (hb3.mono HE2.out.size)); have HB3 := Lib.hid (HB2.out.below hb3 HB2.out.lt); have HR3 := Lib.hid ((HR2.out.below hb3).more hz)
  have HO3 := Lib.hid ho3; have HZ3 := Lib.hid (show w.heap.size ≤ w2.heap.size from HE2.out.size); have HW3 := Lib.hid (show w2.heap.size ≤ w3.heap.size from hz)
  have HBC := Lib.hid hb3
  clear ho3 hb3 hz
  go_wp2_with (at_builtin; refine wpList_append_any _ rfl _ _ _ rfl w2.heap.size 5 i0 (.int .u8 0) 1 1 Tryd.underlying35 hi hz0 hz1 hz2 rfl (by decide) _ _ _ rfl HO3.out w.heap.size _ _ _ (ms.map bv) rfl (Reads.below HX.out HE3.out) (bv_one ms) (by unfold maxLen; omega) (by omega) (by have := HE3.out.size; have := HW3.out; omega) ?_; intro v4 w4 hown4 hgrow4 _; have HBD := Lib.hid (HBC.out.grown hgrow4 HW3.out (fun g hg => (HO3.out.lt g hg).1)); have HO4 := Lib.hid hown4; obtain ⟨A4, c4, rfl, hn4, hc4⟩ := ownsRow_form hown4; clear hown4 hgrow4)
  have hr4 := Reads.of_own HO4.out
  rw [← List.map_append] at hr4
  have hget := getLaw_any w4 A4 _ c4 _ (bs ++ ms) hr4 (Nat.le_refl _) hn4 hc4 (by omega) (fun b hb => by
    rcases List.mem_append.1 hb with h | h
    · exact HLT.out b h
    · exact HMS.out b h)
  rw [HBACK.out] at hget
  have HE4 := Lib.hid (HE2.out.trans (HBD.out.mono HZ3.out)); have HR4 := Lib.hid ((HR2.out.below HBD.out).more HBD.out.size); have HB4 := Lib.hid (HB2.out.below HBD.out HB2.out.lt)
  clear hr4 HO4 HO3 HR3 HR2 HB3 HB2 HE3
  refine hget.mono ?_
  clear hget
  rintro e w5 ⟨cs2, rfl, hlf5, hb5⟩
  obtain ⟨hlen5, hone5⟩ := hlf5.all
  have hz5 := hb5.size
  have he5 := HE4.out.trans (hb5.mono HE4.out.size)
  have hk5 := HB4.out.below hb5 HB4.out.lt
  have hr5 := (HR4.out.below hb5).more hz5
  have y5 := Blk.new w5 31 #[.string ⟨#[]⟩, .int .i64 0, .int .u32 0, .int .u32 0, .bool false, .int .i64 0, .int .i64 0, .slice none 0 0, .int .i64 0, .int .u32 0, .int .u32 0, .bool false, .int .i64 0, .int .i64 0, .slice none 0 0, .slice none 0 0, .slice none 0 0, .int .i64 0]
  have y5' : Blk (w5.alloc (.cells #[.string ⟨#[]⟩, .int .i64 0, .int .u32 0, .int .u32 0, .bool false, .int .i64 0, .int .i64 0, .slice none 0 0, .int .i64 0, .int .u32 0, .int .u32 0, .bool false, .int .i64 0, .int .i64 0, .slice none 0 0, .slice none 0 0, .slice none 0 0, .int .i64 0] 31)) w5.heap.size 31 zl.toArray := by rw [← HQV.out]; exact y5
  have hsr := Chg.setRow (w5.alloc (.cells #[.string ⟨#[]⟩, .int .i64 0, .int .u32 0, .int .u32 0, .bool false, .int .i64 0, .int .i64 0, .slice none 0 0, .int .i64 0, .int .u32 0, .int .u32 0, .bool false, .int .i64 0, .int .i64 0, .slice none 0 0, .slice none 0 0, .slice none 0 0, .int .i64 0] 31)) w5.heap.size cs2.toArray
  have hall : Below w5.heap.size w5 ((w5.alloc (.cells #[.string ⟨#[]⟩, .int .i64 0, .int .u32 0, .int .u32 0, .bool false, .int .i64 0, .int .i64 0, .slice none 0 0, .int .i64 0, .int .u32 0, .int .u32 0, .bool false, .int .i64 0, .int .i64 0, .slice none 0 0, .slice none 0 0, .slice none 0 0, .int .i64 0] 31)).setRow w5.heap.size cs2.toArray) := ((Below.refl w5.heap.size w5).alloc (Nat.le_refl _) _).trans (hsr.below (by simp) (by simp))
  have hy6 := y5'.setRow cs2.toArray
  have he6 := he5.trans (hall.mono (by have := HE4.out.size; omega))
  have hk6 := hk5.below hall hk5.lt
  have hr6 := (hr5.below hall).more hall.size
  have hl6 := ((hlf5.toC (B := w5.heap.size) (fun b hb => hb.2)).below hall).more hall.size
  obtain ⟨w6, hw6⟩ : ∃ W, (w5.alloc (.cells #[.string ⟨#[]⟩, .int .i64 0, .int .u32 0, .int .u32 0, .bool false, .int .i64 0, .int .i64 0, .slice none 0 0, .int .i64 0, .int .u32 0, .int .u32 0, .bool false, .int .i64 0, .int .i64 0, .slice none 0 0, .slice none 0 0, .slice none 0 0, .int .i64 0] 31)).setRow w5.heap.size cs2.toArray = W := ⟨_, rfl⟩
  rw [hw6] at hall hy6 he6 hk6 hr6 hl6
  have HLEN5 := Lib.hid hlen5; have HONE5 := Lib.hid hone5; have HY5 := Lib.hid y5'; have HW6 := Lib.hid hw6; have HE6 := Lib.hid he6; have HK6 := Lib.hid hk6; have HR6 := Lib.hid hr6; have HL6 := Lib.hid hl6; have HY6 := Lib.hid hy6
  have hll : (((bs.length : Nat) : Int) != (bs.length : Nat)) = false := by simp
  clear hlf5 hb5 hz5 he5 hk5 hr5 y5 y5' hsr hall hy6 he6 hk6 hr6 hl6 hw6 hlen5 hone5 HR4 HB4 HE4
  go_wp2_with (first | (refine law_load rfl _ rfl _ rfl _ HLEN.out HK6.out ?_; simp only [Act.put, List.setIfInBounds_toArray, List.set_cons_zero, List.set_cons_succ]) | (refine law_store rfl _ _ rfl _ rfl cs2 zl rfl HLEN5.out HONE5.out HY5.out HQLEN.out ?_; rw [HW6.out]; simp only [Act.put]))
  refine (HCK.out _ HE6.out).mono ?_
  rintro e w7 ⟨rfl, hb7⟩
  have HE7 := Lib.hid (HE6.out.trans (hb7.mono HE6.out.size)); have HK7 := Lib.hid (HK6.out.below hb7 HK6.out.lt); have HR7 := Lib.hid ((HR6.out.below hb7).more hb7.size); have HL7 := Lib.hid ((HL6.out.below hb7).more hb7.size); have HY7 := Lib.hid (HY6.out.below hb7 HY6.out.lt)
  clear hb7 HE6 HK6 HR6 HL6 HY6 HW6 HY5
  go_wp2_with (first | (refine law_loadG rfl _ rfl _ rfl _ HLEN.out HK7.out ?_; simp only [Act.put, List.setIfInBounds_toArray, List.set_cons_zero, List.set_cons_succ]) | (refine law_loadG rfl _ rfl _ rfl _ HLEN5.out HY7.out ?_; simp only [Act.put, List.setIfInBounds_toArray, List.set_cons_zero, List.set_cons_succ]))
  refine (HSM.out _ _ HE7.out HL7.out).mono ?_
  rintro e w8 ⟨rfl, hb8⟩
  have HE8 := Lib.hid (HE7.out.trans (hb8.mono HE7.out.size)); have HR8 := Lib.hid ((HR7.out.below hb8).more hb8.size)
  clear hb8 HE7 HR7 HL7 HY7 HK7
  go_wp2_with fail
  go_loopw [75] (fun i wr => ∃ k : Nat, k ≤ bs.length ∧ i = .int .i64 k ∧ Below w8.heap.size w8 wr) (fun i _ => bs.length - (RowKit.intOf i).toNat)
  case atStart => exact ⟨0, by omega, rfl, Below.refl _ _⟩
  case round =>
    obtain ⟨k, hk, rfl, hbw⟩ := hrel
    have HBW := Lib.hid hbw
    clear hbw
    by_cases hlt : k < bs.length
    · have hkI : (k : Int) < (bs.length : Int) := by omega
      have hkc : (k : Int) ≤ (c2 : Int) := by omega
      have hpre := Reads.pref (k := k) (HR8.out.below HBW.out) hk
      obtain ⟨ad, rfl, had, _⟩ := HR8.out.2 (by omega)
      have hget := getLaw_any wr (some ad) k c2 w8.heap.size (bs.take k) hpre HBW.out.size (by omega) hc2 (by omega) (fun b hb => HLT.out b (List.mem_of_mem_take hb))
      rw [HPART.out k hlt] at hget
      have HGET := Lib.hid hget
      clear hget hpre
      go_wp2_with fail
      refine HGET.out.mono ?_
      rintro e w9 ⟨cs3, rfl, hlf9, hb9⟩
      obtain ⟨hlen9, hone9⟩ := hlf9.all
      have y9 := Blk.new w9 31 #[.string ⟨#[]⟩, .int .i64 0, .int .u32 0, .int .u32 0, .bool false, .int .i64 0, .int .i64 0, .slice none 0 0, .int .i64 0, .int .u32 0, .int .u32 0, .bool false, .int .i64 0, .int .i64 0, .slice none 0 0, .slice none 0 0, .slice none 0 0, .int .i64 0]
      have y9' : Blk (w9.alloc (.cells #[.string ⟨#[]⟩, .int .i64 0, .int .u32 0, .int .u32 0, .bool false, .int .i64 0, .int .i64 0, .slice none 0 0, .int .i64 0, .int .u32 0, .int .u32 0, .bool false, .int .i64 0, .int .i64 0, .slice none 0 0, .slice none 0 0, .slice none 0 0, .int .i64 0] 31)) w9.heap.size 31 zl.toArray := by rw [← HQV.out]; exact y9
      have hsr := Chg.setRow (w9.alloc (.cells #[.string ⟨#[]⟩, .int .i64 0, .int .u32 0, .int .u32 0, .bool false, .int .i64 0, .int .i64 0, .slice none 0 0, .int .i64 0, .int .u32 0, .int .u32 0, .bool false, .int .i64 0, .int .i64 0, .slice none 0 0, .slice none 0 0, .slice none 0 0, .int .i64 0] 31)) w9.heap.size cs3.toArray
      have hall : Below w9.heap.size w9 ((w9.alloc (.cells #[.string ⟨#[]⟩, .int .i64 0, .int .u32 0, .int .u32 0, .bool false, .int .i64 0, .int .i64 0, .slice none 0 0, .int .i64 0, .int .u32 0, .int .u32 0, .bool false, .int .i64 0, .int .i64 0, .slice none 0 0, .slice none 0 0, .slice none 0 0, .int .i64 0] 31)).setRow w9.heap.size cs3.toArray) := ((Below.refl w9.heap.size w9).alloc (Nat.le_refl _) _).trans (hsr.below (by simp) (by simp))
      have hz9 := hb9.size
      have hb := (HBW.out.trans (hb9.mono HBW.out.size)).trans (hall.mono (by have := HBW.out.size; omega))
      have HLEN9 := Lib.hid hlen9; have HONE9 := Lib.hid hone9; have HY9 := Lib.hid y9'; have HB := Lib.hid hb
      clear hlf9 hb9 hlen9 hone9 y9 y9' hsr hall hb hz9 HGET
      go_wp2_with (refine law_store rfl _ _ rfl _ rfl cs3 zl rfl HLEN9.out HONE9.out HY9.out HQLEN.out ?_; simp only [Act.put])
      go_roundw
      case rel => exact ⟨k + 1, by omega, by go_num, HB.out⟩
      case measure => simp [RowKit.intOf]; omega
    · obtain rfl : k = bs.length := by omega
      clear hlt
      go_wp2_with fail
      refine (HWK.out _).mono ?_
      rintro e w9 ⟨rfl, hb⟩
      have HB := Lib.hid (HE8.out.trans ((HBW.out.trans (hb.mono HBW.out.size)).mono HE8.out.size))
      clear hb
      go_wp2
      go_ret
      exact ⟨rfl, HB.out⟩
end Go.Proofs.YtipfhamhiaeieaaDoor
