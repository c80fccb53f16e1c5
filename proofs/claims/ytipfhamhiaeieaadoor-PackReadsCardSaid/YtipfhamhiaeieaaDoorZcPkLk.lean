/-
  PackReads: the walk. Conditions: bytes that can be read. (Printed by packreads.py.)
-/
import Derived.Test.YtipfhamhiaeieaaDoorZcPkSg
import Derived.Test.YtipfhamhiaeieaaDoorZcao
import Derived.Test.YtipfhamhiaeieaaDoorZcai
import Derived.Test.YtipfhamhiaeieaaDoorZcap
namespace Go.Proofs.YtipfhamhiaeieaaDoor
open Go.RowKit Go.Lib

theorem getL_name {bs : List Nat} (hb : ∀ b ∈ bs, b < 256) (hs : bs.length ≤ 1073741824) : (getL bs).1.name.size ≤ maxLen := by
  unfold maxLen getL
  cases h : lawR bs with
  | none => show (0 : Nat) ≤ _; omega
  | some q =>
    obtain ⟨l, r⟩ := q
    show (if lawOk l then (l, bs.length - r.length, (0 : Int)) else (noL, 0, 17)).1.name.size ≤ _
    split
    · have h' := h
      unfold lawR at h'
      obtain ⟨nm, r1, h1, h2⟩ := thenR_out h'
      have hn := textR_size h1 hb
      obtain ⟨x2, r2, -, h2⟩ := thenR_out h2
      obtain ⟨x3, r3, -, h2⟩ := thenR_out h2
      obtain ⟨x4, r4, -, h2⟩ := thenR_out h2
      obtain ⟨x5, r5, -, h2⟩ := thenR_out h2
      obtain ⟨x6, r6, -, h2⟩ := thenR_out h2
      injection h2 with h2
      injection h2 with h2 _
      rw [← h2]
      show nm.size ≤ _
      omega
    · show (0 : Nat) ≤ _; omega
theorem getW_len (bs : List Nat) : (getW bs).1.length ≤ 32 := by
  unfold getW
  cases wordR bs with
  | none => exact Nat.zero_le _
  | some q =>
    obtain ⟨ws, r⟩ := q
    show (if wordE ws = 0 then (ws, bs.length - r.length, (0 : Int)) else ([], 0, wordE ws)).1.length ≤ _
    split
    · rename_i h; exact wordE_len h
    · exact Nat.zero_le _
set_option maxRecDepth 20000 in
set_option maxHeartbeats 8000000 in
theorem packReads_law (w : World) (A : Option Addr) (n c : Nat) (xs : List UInt8) (hx : ReadB w w.heap.size A n xs) (hn : n ≤ c) (hc : c ≤ maxLen) :
    Calls Tryd.prog 9 #[.slice A n c] w fun e w' => e = .returned (.bool true) ∧ Below w.heap.size w w' := by
  have HWK := Lib.hid works_any
  by_cases hg : (2000 : Int) < n
  · clear hx
    unfold maxLen at hc
    go_enter Tryd.func9, Tryd.ntmps9
    go_wp2_with fail
    refine (HWK.out _).mono ?_
    rintro e w1 ⟨rfl, hb⟩
    have HB := Lib.hid hb
    clear hb
    go_wp2
    go_ret
    exact ⟨rfl, HB.out⟩
  have hm256 : ∀ b ∈ xs.map UInt8.toNat, b < 256 := fun _ hc => by obtain ⟨x, _, rfl⟩ := List.mem_map.1 hc; exact x.toNat_lt
  replace hx : Reads w w.heap.size 1 A n ((xs.map UInt8.toNat).map bv) := by rw [← u8s_eq]; exact hx
  generalize xs.map UInt8.toNat = bs at *
  have hbl : bs.length = n := by have := hx.1; simpa using this
  subst hbl
  have hnm := getL_name hm256 (by omega)
  obtain ⟨zl, hzl, hzlen, hzone⟩ : ∃ zl : List Value, zeroL = zl ∧ zl.length = 18 ∧ ∀ u ∈ zl, u.oneCell' = true := ⟨zeroL, rfl, rfl, by decide⟩
  have HX := Lib.hid hx; have HLT := Lib.hid hm256; have HQV := Lib.hid hzl; have HQLEN := Lib.hid hzlen; have HQONE := Lib.hid hzone
  have hgl := fun W A' c' (hr : Reads W W.heap.size 1 A' bs.length (bs.map bv)) (h1 : bs.length ≤ c') (h2 : c' ≤ maxLen) => getLaw_any W A' bs.length c' W.heap.size bs hr (Nat.le_refl _) h1 h2 (by omega) hm256
  have hgs := fun W A' c' (hr : Reads W W.heap.size 1 A' bs.length (bs.map bv)) (h1 : bs.length ≤ c') (h2 : c' ≤ maxLen) => refGetLaw_any W A' bs.length c' W.heap.size bs hr (Nat.le_refl _) h1 h2 (by omega) hm256
  have hgw := fun W A' c' (hr : Reads W W.heap.size 1 A' bs.length (bs.map bv)) (h1 : bs.length ≤ c') (h2 : c' ≤ maxLen) => getWord_any W A' bs.length c' W.heap.size bs hr (Nat.le_refl _) h1 h2 (by omega) hm256
  have hgv := fun W A' c' (hr : Reads W W.heap.size 1 A' bs.length (bs.map bv)) (h1 : bs.length ≤ c') (h2 : c' ≤ maxLen) => refGetWord_any W A' bs.length c' W.heap.size bs hr (Nat.le_refl _) h1 h2 (by omega) hm256
  obtain ⟨l, nl, el, hgetl⟩ : ∃ l nl el, getL bs = (l, nl, el) := ⟨_, _, _, rfl⟩
  obtain ⟨ws, nw, ew, hgetw⟩ : ∃ l nl el, getW bs = (l, nl, el) := ⟨_, _, _, rfl⟩
  rw [hgetl] at hnm
  simp only [hgetl] at hgl hgs
  simp only [hgetw] at hgw hgv
  have hwl : ws.length ≤ 32 := by have := getW_len bs; rw [hgetw] at this; exact this
  have HNM := Lib.hid hnm; have HGL := Lib.hid hgl; have HGS := Lib.hid hgs; have HGW := Lib.hid hgw; have HGV := Lib.hid hgv; have HWL := Lib.hid hwl
  clear hx hm256 hzl hzlen hzone hgl hgs hgw hgv hgetl hgetw hnm
  go_enter Tryd.func9, Tryd.ntmps9
  go_wp2_with fail
  refine (cloneB_any A _ c _ w _ HX.out (bv_one bs) (Nat.le_refl _) (by omega)).mono ?_
  rintro e w1 ⟨v1, rfl, ho1, hb1⟩
  obtain ⟨A1, c1, rfl, hn1, hc1, hr1⟩ := own_reads ho1
  have HB1 := Lib.hid hb1; have HR1 := Lib.hid hr1; have HX1 := Lib.hid ((HX.out.below hb1).more hb1.size)
  clear ho1 hb1 hr1
  go_wp2_with fail
  refine (HGL.out _ _ _ HX1.out hn hc).mono ?_
  rintro e w2 ⟨cs1, rfl, hlf2, hb2⟩
  dsimp only
  obtain ⟨hlen2, hone2⟩ := hlf2.all
  have hz2 := hb2.size
  have y2 : Blk (w2.alloc (.cells #[.string ⟨#[]⟩, .int .i64 0, .int .u32 0, .int .u32 0, .bool false, .int .i64 0, .int .i64 0, .slice none 0 0, .int .i64 0, .int .u32 0, .int .u32 0, .bool false, .int .i64 0, .int .i64 0, .slice none 0 0, .slice none 0 0, .slice none 0 0, .int .i64 0] 31)) w2.heap.size 31 zl.toArray := by rw [← HQV.out]; exact Blk.new w2 31 #[.string ⟨#[]⟩, .int .i64 0, .int .u32 0, .int .u32 0, .bool false, .int .i64 0, .int .i64 0, .slice none 0 0, .int .i64 0, .int .u32 0, .int .u32 0, .bool false, .int .i64 0, .int .i64 0, .slice none 0 0, .slice none 0 0, .slice none 0 0, .int .i64 0]
  have hsr := Chg.setRow (w2.alloc (.cells #[.string ⟨#[]⟩, .int .i64 0, .int .u32 0, .int .u32 0, .bool false, .int .i64 0, .int .i64 0, .slice none 0 0, .int .i64 0, .int .u32 0, .int .u32 0, .bool false, .int .i64 0, .int .i64 0, .slice none 0 0, .slice none 0 0, .slice none 0 0, .int .i64 0] 31)) w2.heap.size cs1.toArray
  have hall : Below w2.heap.size w2 ((w2.alloc (.cells #[.string ⟨#[]⟩, .int .i64 0, .int .u32 0, .int .u32 0, .bool false, .int .i64 0, .int .i64 0, .slice none 0 0, .int .i64 0, .int .u32 0, .int .u32 0, .bool false, .int .i64 0, .int .i64 0, .slice none 0 0, .slice none 0 0, .slice none 0 0, .int .i64 0] 31)).setRow w2.heap.size cs1.toArray) := ((Below.refl w2.heap.size w2).alloc (Nat.le_refl _) _).trans (hsr.below (by simp) (by simp))
  have hy := y2.setRow cs1.toArray
  have hl := ((hlf2.toC (B := w2.heap.size) (fun b hb => hb.2)).below hall).more hall.size
  have hb := HB1.out.trans ((hb2.trans (hall.mono hz2)).mono HB1.out.size)
  have hx3 := (((HX1.out.below hb2).more hz2).below hall).more hall.size
  have hr3 := (((HR1.out.below hb2).more hz2).below hall).more hall.size
  obtain ⟨w3, hw3⟩ : ∃ W, (w2.alloc (.cells #[.string ⟨#[]⟩, .int .i64 0, .int .u32 0, .int .u32 0, .bool false, .int .i64 0, .int .i64 0, .slice none 0 0, .int .i64 0, .int .u32 0, .int .u32 0, .bool false, .int .i64 0, .int .i64 0, .slice none 0 0, .slice none 0 0, .slice none 0 0, .int .i64 0] 31)).setRow w2.heap.size cs1.toArray = W := ⟨_, rfl⟩
  rw [hw3] at hy hl hb hx3 hr3
  have HLEN1 := Lib.hid hlen2; have HONE1 := Lib.hid hone2; have HY2 := Lib.hid y2; have HW3 := Lib.hid hw3; have HY := Lib.hid hy; have HL := Lib.hid hl; have HB := Lib.hid hb; have HX3 := Lib.hid hx3; have HR3 := Lib.hid hr3
  clear hlf2 hb2 hlen2 hone2 hz2 y2 hsr hall hy hl hb hx3 hr3 hw3 HB1 HR1 HX1
  go_wp2_with (refine law_store rfl _ _ rfl _ rfl cs1 zl rfl HLEN1.out HONE1.out HY2.out HQLEN.out ?_; rw [HW3.out]; simp only [Act.put])
  refine (HGS.out _ _ _ HR3.out hn1 hc1).mono ?_
  rintro e w4 ⟨cs2, rfl, hlf4, hb4⟩
  dsimp only
  obtain ⟨hlen4, hone4⟩ := hlf4.all
  have hz4 := hb4.size
  have y4 : Blk (w4.alloc (.cells #[.string ⟨#[]⟩, .int .i64 0, .int .u32 0, .int .u32 0, .bool false, .int .i64 0, .int .i64 0, .slice none 0 0, .int .i64 0, .int .u32 0, .int .u32 0, .bool false, .int .i64 0, .int .i64 0, .slice none 0 0, .slice none 0 0, .slice none 0 0, .int .i64 0] 31)) w4.heap.size 31 zl.toArray := by rw [← HQV.out]; exact Blk.new w4 31 #[.string ⟨#[]⟩, .int .i64 0, .int .u32 0, .int .u32 0, .bool false, .int .i64 0, .int .i64 0, .slice none 0 0, .int .i64 0, .int .u32 0, .int .u32 0, .bool false, .int .i64 0, .int .i64 0, .slice none 0 0, .slice none 0 0, .slice none 0 0, .int .i64 0]
  have hsr := Chg.setRow (w4.alloc (.cells #[.string ⟨#[]⟩, .int .i64 0, .int .u32 0, .int .u32 0, .bool false, .int .i64 0, .int .i64 0, .slice none 0 0, .int .i64 0, .int .u32 0, .int .u32 0, .bool false, .int .i64 0, .int .i64 0, .slice none 0 0, .slice none 0 0, .slice none 0 0, .int .i64 0] 31)) w4.heap.size cs2.toArray
  have hall : Below w4.heap.size w4 ((w4.alloc (.cells #[.string ⟨#[]⟩, .int .i64 0, .int .u32 0, .int .u32 0, .bool false, .int .i64 0, .int .i64 0, .slice none 0 0, .int .i64 0, .int .u32 0, .int .u32 0, .bool false, .int .i64 0, .int .i64 0, .slice none 0 0, .slice none 0 0, .slice none 0 0, .int .i64 0] 31)).setRow w4.heap.size cs2.toArray) := ((Below.refl w4.heap.size w4).alloc (Nat.le_refl _) _).trans (hsr.below (by simp) (by simp))
  have hy := y4.setRow cs2.toArray
  have hl := ((hlf4.toC (B := w4.heap.size) (fun b hb => hb.2)).below hall).more hall.size
  have hbb := hb4.trans (hall.mono hz4)
  have hb := HB.out.trans (hbb.mono HB.out.size)
  have hx5 := (HX3.out.below hbb).more hbb.size
  have hr5 := (HR3.out.below hbb).more hbb.size
  have hy1 := HY.out.below hbb HY.out.lt
  have hl1 := (HL.out.below hbb).more hbb.size
  obtain ⟨w5, hw5⟩ : ∃ W, (w4.alloc (.cells #[.string ⟨#[]⟩, .int .i64 0, .int .u32 0, .int .u32 0, .bool false, .int .i64 0, .int .i64 0, .slice none 0 0, .int .i64 0, .int .u32 0, .int .u32 0, .bool false, .int .i64 0, .int .i64 0, .slice none 0 0, .slice none 0 0, .slice none 0 0, .int .i64 0] 31)).setRow w4.heap.size cs2.toArray = W := ⟨_, rfl⟩
  rw [hw5] at hy hl hb hx5 hr5 hy1 hl1
  have HLEN2 := Lib.hid hlen4; have HONE2 := Lib.hid hone4; have HY4 := Lib.hid y4; have HW5 := Lib.hid hw5; have HYB := Lib.hid hy; have HLB := Lib.hid hl; have HYA := Lib.hid hy1; have HLA := Lib.hid hl1; have HB5 := Lib.hid hb; have HX5 := Lib.hid hx5; have HR5 := Lib.hid hr5
  clear hlf4 hb4 hlen4 hone4 hz4 y4 hsr hall hbb hy hl hb hx5 hr5 hy1 hl1 hw5 HB HY HL HX3 HR3 HW3 HY2
  go_wp2_with (refine law_store rfl _ _ rfl _ rfl cs2 zl rfl HLEN2.out HONE2.out HY4.out HQLEN.out ?_; rw [HW5.out]; simp only [Act.put])
  refine (HGW.out _ _ _ HX5.out hn hc).mono ?_
  rintro e w6 ⟨v6, rfl, ho6, hb6⟩
  dsimp only
  obtain ⟨A6, c6, rfl, hn6, hc6, hr6⟩ := own_reads ho6
  have HR6 := Lib.hid hr6
  have HB6 := Lib.hid (HB5.out.trans (hb6.mono HB5.out.size)); have HX6 := Lib.hid ((HX5.out.below hb6).more hb6.size); have HRR6 := Lib.hid ((HR5.out.below hb6).more hb6.size); have HYA6 := Lib.hid (HYA.out.below hb6 HYA.out.lt); have HYB6 := Lib.hid (HYB.out.below hb6 HYB.out.lt); have HLA6 := Lib.hid ((HLA.out.below hb6).more hb6.size); have HLB6 := Lib.hid ((HLB.out.below hb6).more hb6.size)
  clear ho6 hr6 hb6 HB5 HX5 HR5 HYA HYB HLA HLB HW5 HY4
  go_wp2_with fail
  refine (HGV.out _ _ _ HRR6.out hn1 hc1).mono ?_
  rintro e w7 ⟨v7, rfl, ho7, hb7⟩
  dsimp only
  obtain ⟨A7, c7, rfl, hn7, hc7, hr7⟩ := own_reads ho7
  have HR7 := Lib.hid hr7; have HR67 := Lib.hid ((HR6.out.below hb7).more hb7.size)
  have HB7 := Lib.hid (HB6.out.trans (hb7.mono HB6.out.size)); have HX7 := Lib.hid ((HX6.out.below hb7).more hb7.size); have HRR7 := Lib.hid ((HRR6.out.below hb7).more hb7.size); have HYA7 := Lib.hid (HYA6.out.below hb7 HYA6.out.lt); have HYB7 := Lib.hid (HYB6.out.below hb7 HYB6.out.lt); have HLA7 := Lib.hid ((HLA6.out.below hb7).more hb7.size); have HLB7 := Lib.hid ((HLB6.out.below hb7).more hb7.size)
  clear ho7 hr7 hb7 HB6 HX6 HRR6 HYA6 HYB6 HLA6 HLB6 HR6
  go_wp2_with (first | (refine law_load rfl _ rfl _ rfl _ HLEN1.out HYA7.out ?_; simp only [Act.put, List.setIfInBounds_toArray, List.set_cons_zero, List.set_cons_succ]) | (refine law_load rfl _ rfl _ rfl _ HLEN2.out HYB7.out ?_; simp only [Act.put, List.setIfInBounds_toArray, List.set_cons_zero, List.set_cons_succ]))
  refine (sameLaw_any w7 w7.heap.size l cs1 cs2 HLA7.out HLB7.out (Nat.le_refl _) HNM.out).mono ?_
  rintro e w8 ⟨rfl, hb8⟩
  have e1 : (el == el) = true := by simp
  have e2 : ((nl : Int) == (nl : Int)) = true := by simp
  have e3 : (ew == ew) = true := by simp
  have e4 : ((nw : Int) == (nw : Int)) = true := by simp
  have HB8 := Lib.hid (HB7.out.trans (hb8.mono HB7.out.size)); have HX8 := Lib.hid ((HX7.out.below hb8).more hb8.size); have HRR8 := Lib.hid ((HRR7.out.below hb8).more hb8.size); have HR78 := Lib.hid ((HR67.out.below hb8).more hb8.size); have HR8 := Lib.hid ((HR7.out.below hb8).more hb8.size)
  clear hb8 HB7 HX7 HRR7 HYA7 HYB7 HLA7 HLB7 HR67 HR7
  go_wp2_with fail
  refine (refEqual_any A6 A7 _ _ c6 c7 w8.heap.size ws ws w8 HR78.out HR8.out (Nat.le_refl _) (by unfold maxLen; have := HWL.out; omega)).mono ?_
  rw [decide_eq_true rfl]
  rintro e w9 ⟨rfl, -, hb9⟩
  have HB9 := Lib.hid (HB8.out.trans (hb9.mono HB8.out.size)); have HX9 := Lib.hid ((HX8.out.below hb9).more hb9.size); have HRR9 := Lib.hid ((HRR8.out.below hb9).more hb9.size)
  clear hb9 HB8 HX8 HRR8 HR78 HR8
  go_wp2_with fail
  refine (bytesEq_any A1 A _ _ c1 c _ bs bs w9 HRR9.out HX9.out HLT.out HLT.out).mono ?_
  rw [decide_eq_true rfl]
  rintro e w10 ⟨rfl, rfl⟩
  go_wp2_with fail
  refine (HWK.out _).mono ?_
  rintro e w11 ⟨rfl, hb⟩
  have HB := Lib.hid (HB9.out.trans (hb.mono HB9.out.size))
  clear hb
  go_wp2
  go_ret
  exact ⟨rfl, HB.out⟩
end Go.Proofs.YtipfhamhiaeieaaDoor
