/-
  PackWords: the walk. Conditions: a word that can be read.
-/
import Derived.Test.YtipfhamhiaeieaaDoorZaPkWl
import Derived.Test.YtipfhamhiaeieaaDoorZaak
import Derived.Test.YtipfhamhiaeieaaDoorZaPkRc
namespace Go.Proofs.YtipfhamhiaeieaaDoor
open Go.RowKit Go.Lib

theorem numB_lt (n : Nat) : ∀ b ∈ numB n, b < 256 := numK_lt 5 n
theorem sndB_lt (s : Snd) : ∀ b ∈ sndB s, b < 256 := by
  intro b hb
  unfold sndB at hb
  rcases List.mem_append.1 hb with h | h <;> exact numB_lt _ b h
theorem putW_lt (ws : List Snd) : ∀ b ∈ putW ws, b < 256 := by
  intro b hb
  unfold putW at hb
  split at hb
  · unfold wordB allB at hb
    rcases List.mem_append.1 hb with h | h
    · exact numB_lt _ b h
    · obtain ⟨s, _, hs⟩ := List.mem_flatMap.1 h
      exact sndB_lt s b hs
  · cases hb
set_option maxRecDepth 20000 in
set_option maxHeartbeats 1000000 in
theorem packWords_law (A : Option Addr) (n c : Nat) (ws : List Snd) (w : World) (hr : Reads w w.heap.size 2 A n (ws.flatMap sndC)) (hok : ∀ s ∈ ws, ok32 s) (hn : n ≤ maxLen) :
    Calls Tryd.prog 4 #[.slice A n c] w fun e w' => e = .returned (.bool true) ∧ Below w.heap.size w w' := by
  have hp := putWord_any A n c _ ws w hr (Nat.le_refl _) hn hok
  have hq := fun (W : World) (hb : Below w.heap.size w W) => refPutWord_any A n c _ ws W (hr.below hb) hb.size hn hok
  have hlt := putW_lt ws
  have HWK := Lib.hid works_any
  generalize putW ws = bs at *
  generalize wordE ws = x at *
  have HP := Lib.hid hp; have HQ := Lib.hid hq; have HLT := Lib.hid hlt
  clear hr hok hp hq hlt
  unfold maxLen at hn
  by_cases hg : (100 : Int) < n
  · go_enter Tryd.func4, Tryd.ntmps4
    go_wp2_with fail
    refine (HWK.out _).mono ?_
    rintro e w1 ⟨rfl, hb⟩
    have HB := Lib.hid hb
    clear hb
    go_wp2
    go_ret
    exact ⟨rfl, HB.out⟩
  · go_enter Tryd.func4, Tryd.ntmps4
    go_wp2_with fail
    refine HP.out.mono ?_
    rintro e w1 ⟨v1, rfl, ho1, hb1⟩
    obtain ⟨A1, c1, rfl, hn1, hc1, hr1⟩ := own_reads ho1
    have HB1 := Lib.hid hb1; have HR1 := Lib.hid hr1
    clear hb1 hr1 ho1
    go_wp2_with fail
    refine (HQ.out _ HB1.out).mono ?_
    rintro e w2 ⟨v2, rfl, ho2, hb2⟩
    obtain ⟨A2, c2, rfl, hn2, hc2, hr2⟩ := own_reads ho2
    have hz := hb2.size
    have HR12 := Lib.hid ((HR1.out.below hb2).more hz)
    have HB2 := Lib.hid (HB1.out.trans (hb2.mono HB1.out.size)); have HR2 := Lib.hid hr2
    clear hb2 hr2 ho2 hz
    go_wp2_with fail
    refine (bytesEq_any A1 A2 _ _ c1 c2 _ bs bs _ HR12.out HR2.out HLT.out HLT.out).mono ?_
    rw [decide_eq_true rfl]
    rintro e w3 ⟨rfl, rfl⟩
    have hxx : (x == x) = true := by simp
    go_wp2_with fail
    refine (HWK.out _).mono ?_
    rintro e w4 ⟨rfl, hb⟩
    have HB := Lib.hid (HB2.out.trans (hb.mono HB2.out.size))
    clear hb
    go_wp2
    go_ret
    exact ⟨rfl, HB.out⟩
end Go.Proofs.YtipfhamhiaeieaaDoor
namespace Go.Proofs.YtipfhamhiaeieaaDoor
open Go.RowKit Go.Lib

theorem patB_lt : ∀ p : Pt, ∀ b ∈ patB p, b < 256 := by
  have h : ∀ m (p : Pt), ptSize p ≤ m → ∀ b ∈ patB p, b < 256 := by
    intro m
    induction m with
    | zero => intro p hp; have := ptSize_pos p; omega
    | succ m ih =>
      rintro ⟨k, s, neg, lo, hi, l⟩ hp b hb
      rw [ptSize_mk] at hp
      have hl : ∀ b ∈ patsB l, b < 256 := by
        intro b hb
        rw [patsB_flat] at hb
        obtain ⟨q, hq, hb⟩ := List.mem_flatMap.1 hb
        exact ih q (by have := ptSize_mem hq; omega) b hb
      rw [patB_mk] at hb
      rcases List.mem_append.1 hb with hb | hb
      · exact numB_lt _ b hb
      split at hb
      · rcases List.mem_append.1 hb with hb | hb
        · exact sndB_lt _ b hb
        · exact numB_lt _ b hb
      · split at hb
        · rcases List.mem_append.1 hb with hb | hb
          · exact numB_lt _ b hb
          · exact hl b hb
        · split at hb
          · rcases List.mem_append.1 hb with hb | hb
            · exact numB_lt _ b hb
            rcases List.mem_append.1 hb with hb | hb
            · exact numB_lt _ b hb
            · exact hl b hb
          · cases hb
  exact fun p => h _ p (Nat.le_refl _)
theorem outB_lt (x : Ot) : ∀ b ∈ outB x, b < 256 := by
  intro b hb
  unfold outB at hb
  rcases List.mem_append.1 hb with hb | hb
  · exact numB_lt _ b hb
  rcases List.mem_append.1 hb with hb | hb
  · exact numB_lt _ b hb
  rcases List.mem_append.1 hb with hb | hb
  · exact sndB_lt _ b hb
  rcases List.mem_append.1 hb with hb | hb
  · exact numB_lt _ b hb
  · exact numB_lt _ b hb
theorem textB_lt (s : ByteArray) : ∀ b ∈ textB s, b < 256 := by
  intro b hb
  unfold textB at hb
  rcases List.mem_append.1 hb with hb | hb
  · exact numB_lt _ b hb
  · unfold sbytes at hb
    obtain ⟨u, _, rfl⟩ := List.mem_map.1 hb
    exact u.toNat_lt
theorem wordB_lt (ws : List Snd) : ∀ b ∈ wordB ws, b < 256 := by
  intro b hb
  unfold wordB allB at hb
  rcases List.mem_append.1 hb with h | h
  · exact numB_lt _ b h
  · obtain ⟨s, _, hs⟩ := List.mem_flatMap.1 h
    exact sndB_lt s b hs
theorem lawB_lt (l : Lw) : ∀ b ∈ lawB l, b < 256 := by
  intro b hb
  unfold lawB at hb
  rcases List.mem_append.1 hb with hb | hb
  · exact textB_lt _ b hb
  rcases List.mem_append.1 hb with hb | hb
  · exact patB_lt _ b hb
  rcases List.mem_append.1 hb with hb | hb
  · exact patB_lt _ b hb
  rcases List.mem_append.1 hb with hb | hb
  · exact wordB_lt _ b hb
  rcases List.mem_append.1 hb with hb | hb
  · unfold outsB allB at hb
    rcases List.mem_append.1 hb with h | h
    · exact numB_lt _ b h
    · obtain ⟨s, _, hs⟩ := List.mem_flatMap.1 h
      exact outB_lt s b hs
  · exact numB_lt _ b hb
theorem putL_lt (l : Lw) : ∀ b ∈ putL l, b < 256 := by
  intro b hb
  unfold putL at hb
  split at hb
  · exact lawB_lt l b hb
  · cases hb
/-- A law's cells, those of its patterns. -/
theorem law_pats {w : World} {B : Nat} {l : Lw} {cs : List Value} (hl : LawC w B l cs) : ∃ k1 s1 n1 lo1 hi1 A1 m1 c1 k2 s2 n2 lo2 hi2 A2 m2 c2,
    (cs[1]? = some (.int .i64 k1) ∧ cs[2]? = some (.int .u32 s1.1) ∧ cs[3]? = some (.int .u32 s1.2) ∧ cs[4]? = some (.bool n1) ∧ cs[5]? = some (.int .i64 lo1) ∧ cs[6]? = some (.int .i64 hi1) ∧ cs[7]? = some (.slice A1 m1 c1)) ∧
    (cs[8]? = some (.int .i64 k2) ∧ cs[9]? = some (.int .u32 s2.1) ∧ cs[10]? = some (.int .u32 s2.2) ∧ cs[11]? = some (.bool n2) ∧ cs[12]? = some (.int .i64 lo2) ∧ cs[13]? = some (.int .i64 hi2) ∧ cs[14]? = some (.slice A2 m2 c2)) ∧
    ∀ W, Below B w W → PatC W B l.left (patL k1 s1 n1 lo1 hi1 (.slice A1 m1 c1)) ∧ PatC W B l.right (patL k2 s2 n2 lo2 hi2 (.slice A2 m2 c2)) := by
  obtain ⟨k1, s1, n1, lo1, hi1, A1, m1, c1, k2, s2, n2, lo2, hi2, A2, m2, c2, A3, c3, A4, c4, rfl, hp1, hp2, -⟩ := hl.form
  exact ⟨k1, s1, n1, lo1, hi1, A1, m1, c1, k2, s2, n2, lo2, hi2, A2, m2, c2, ⟨rfl, rfl, rfl, rfl, rfl, rfl, rfl⟩, ⟨rfl, rfl, rfl, rfl, rfl, rfl, rfl⟩, fun W hW => ⟨hp1.below hW, hp2.below hW⟩⟩
theorem Blk.cellL {w : World} {g : Nat} {t : TypeId} {cs : List Value} {i : Nat} {u : Value} (h : Blk w g t cs.toArray) (hu : cs[i]? = some u) : w.cell? ⟨g, i, none⟩ = some u := by
  rw [h.cell i, List.getElem?_toArray, hu]
theorem big_no {l : Lw} (h : 40 < ptSize l.left ∨ 40 < ptSize l.right) : lawOk l = false := by
  unfold lawOk patOk
  rcases h with h | h
  · rw [decide_eq_false (show ¬ ptSize l.left ≤ 40 by omega)]; simp
  · rw [decide_eq_false (show ¬ ptSize l.right ≤ 40 by omega)]; simp
set_option maxRecDepth 20000 in
set_option maxHeartbeats 4000000 in
theorem packLaws_law (w : World) (l : Lw) (cs : List Value) (hl : LawC w w.heap.size l cs) (hnm : l.name.size ≤ maxLen) :
    Calls Tryd.prog 3 #[.agg cs.toArray] w fun e w' => e = .returned (.bool true) ∧ Below w.heap.size w w' := by
  have hlen := law_len hl
  have hli := fun W hW => light_any W w.heap.size l _ (hl.below (hW : Below w.heap.size w W)) hnm
  have hp := fun W (hW : Below w.heap.size w W) => putLaw_any W w.heap.size l _ (hl.below hW) hW.size hnm
  have hq := fun W (hW : Below w.heap.size w W) => refPutLaw_any W w.heap.size l _ (hl.below hW) hW.size hnm
  obtain ⟨k1, s1, n1, lo1, hi1, A1, m1, c1, k2, s2, n2, lo2, hi2, A2, m2, c2, ⟨e1, e2, e3, e4, e5, e6, e7⟩, ⟨f1, f2, f3, f4, f5, f6, f7⟩, hpat⟩ := law_pats hl
  have hz1 := fun W hW => refSize_any l.left k1 s1 n1 lo1 hi1 A1 m1 c1 W w.heap.size (hpat W hW).1 hW.size
  have hz2 := fun W hW => refSize_any l.right k2 s2 n2 lo2 hi2 A2 m2 c2 W w.heap.size (hpat W hW).2 hW.size
  have hlt := putL_lt l
  have hbig : ptSize l.left > 40 ∨ ptSize l.right > 40 → putL l = [] ∧ lawE l = 17 := fun h => by
    have hno := big_no h
    exact ⟨by unfold putL; rw [hno]; rfl, lawE_no hno⟩
  have hbel0 := (Below.refl w.heap.size w).alloc (Nat.le_refl _) (.cells cs.toArray 31)
  have hb0 := Blk.new w 31 cs.toArray
  have HWK := Lib.hid works_any
  have hcell := fun W (hW : Blk W w.heap.size 31 cs.toArray) => And.intro (hW.cellL e1) (And.intro (hW.cellL e2) (And.intro (hW.cellL e3) (And.intro (hW.cellL e4) (And.intro (hW.cellL e5) (And.intro (hW.cellL e6) (And.intro (hW.cellL e7) (And.intro (hW.cellL f1) (And.intro (hW.cellL f2) (And.intro (hW.cellL f3) (And.intro (hW.cellL f4) (And.intro (hW.cellL f5) (And.intro (hW.cellL f6) (hW.cellL f7)))))))))))))
  obtain ⟨x, hx⟩ : ∃ x, lawE l = x := ⟨_, rfl⟩
  obtain ⟨bs, hbs⟩ : ∃ bs, putL l = bs := ⟨_, rfl⟩
  obtain ⟨lt, hlt2⟩ : ∃ b, lightL l = b := ⟨_, rfl⟩
  simp only [hx, hbs, hlt2] at hli hp hq hlt hbig
  obtain ⟨za, hza⟩ : ∃ z, min (ptSize l.left) 41 = z := ⟨_, rfl⟩
  obtain ⟨zb, hzb⟩ : ∃ z, min (ptSize l.right) 41 = z := ⟨_, rfl⟩
  simp only [hza] at hz1
  simp only [hzb] at hz2
  have hbig' : 40 < za ∨ 40 < zb → bs = [] ∧ x = 17 := fun h => hbig (by omega)
  have HLEN := Lib.hid hlen; have HLI := Lib.hid hli; have HP := Lib.hid hp; have HQ := Lib.hid hq; have HZA := Lib.hid hz1; have HZB := Lib.hid hz2; have HLT := Lib.hid hlt; have HBIG := Lib.hid hbig'; have HE0 := Lib.hid hbel0; have HB0 := Lib.hid hb0; have HC := Lib.hid hcell
  clear hlen hli hp hq hz1 hz2 hlt hbig hbig' hbel0 hb0 hcell hpat hl e1 e2 e3 e4 e5 e6 e7 f1 f2 f3 f4 f5 f6 f7 hx hbs hlt2 hza hzb
  go_enter Tryd.func3, Tryd.ntmps3
  go_wp2_with (refine law_load rfl _ rfl _ rfl _ HLEN.out HB0.out ?_; simp only [Act.put, List.setIfInBounds_toArray, List.set_cons_zero, List.set_cons_succ])
  refine (HLI.out _ HE0.out).mono ?_
  rintro e w1 ⟨rfl, hb1⟩
  have HE1 := Lib.hid (HE0.out.trans (hb1.mono HE0.out.size)); have HB1 := Lib.hid (HB0.out.below hb1 HB0.out.lt)
  clear hb1
  cases lt
  · go_wp2_with fail
    refine (HWK.out _).mono ?_
    rintro e w2 ⟨rfl, hb⟩
    have HB := Lib.hid (HE1.out.trans (hb.mono HE1.out.size))
    clear hb
    go_wp2
    go_ret
    exact ⟨rfl, HB.out⟩
  obtain ⟨y1, y2, y3, y4, y5, y6, y7, y8, y9, y10, y11, y12, y13, y14⟩ := HC.out w1 HB1.out
  go_wp2_with fail
  refine (HZA.out _ HE1.out).mono ?_
  rintro e w2 ⟨rfl, hb2⟩
  have HE2 := Lib.hid (HE1.out.trans (hb2.mono HE1.out.size)); have HB2 := Lib.hid (HB1.out.below hb2 HB1.out.lt)
  clear hb2 y1 y2 y3 y4 y5 y6 y7 y8 y9 y10 y11 y12 y13 y14
  by_cases g1 : (40 : Int) < (za : Int)
  · obtain ⟨rfl, rfl⟩ := HBIG.out (.inl (by omega))
    go_wp2_with (refine law_load rfl _ rfl _ rfl _ HLEN.out HB2.out ?_; simp only [Act.put, List.setIfInBounds_toArray, List.set_cons_zero, List.set_cons_succ])
    refine (HP.out _ HE2.out).mono ?_
    rintro e w3 ⟨v3, rfl, ho3, hb3⟩
    obtain ⟨A3, c3, rfl, -, -, -⟩ := own_reads ho3
    have HE3 := Lib.hid (HE2.out.trans (hb3.mono HE2.out.size))
    clear hb3 ho3
    simp only [List.length_nil]
    go_wp2_with fail
    refine (HWK.out _).mono ?_
    rintro e w4 ⟨rfl, hb⟩
    have HB := Lib.hid (HE3.out.trans (hb.mono HE3.out.size))
    clear hb
    go_wp2
    go_ret
    exact ⟨rfl, HB.out⟩
  obtain ⟨y1, y2, y3, y4, y5, y6, y7, y8, y9, y10, y11, y12, y13, y14⟩ := HC.out w2 HB2.out
  go_wp2_with fail
  refine (HZB.out _ HE2.out).mono ?_
  rintro e w3 ⟨rfl, hb3⟩
  have HE3 := Lib.hid (HE2.out.trans (hb3.mono HE2.out.size)); have HB3 := Lib.hid (HB2.out.below hb3 HB2.out.lt)
  clear hb3 y1 y2 y3 y4 y5 y6 y7 y8 y9 y10 y11 y12 y13 y14
  by_cases g2 : (40 : Int) < (zb : Int)
  · obtain ⟨rfl, rfl⟩ := HBIG.out (.inr (by omega))
    go_wp2_with (refine law_load rfl _ rfl _ rfl _ HLEN.out HB3.out ?_; simp only [Act.put, List.setIfInBounds_toArray, List.set_cons_zero, List.set_cons_succ])
    refine (HP.out _ HE3.out).mono ?_
    rintro e w4 ⟨v4, rfl, ho4, hb4⟩
    obtain ⟨A4, c4, rfl, -, -, -⟩ := own_reads ho4
    have HE4 := Lib.hid (HE3.out.trans (hb4.mono HE3.out.size))
    clear hb4 ho4
    simp only [List.length_nil]
    go_wp2_with fail
    refine (HWK.out _).mono ?_
    rintro e w5 ⟨rfl, hb⟩
    have HB := Lib.hid (HE4.out.trans (hb.mono HE4.out.size))
    clear hb
    go_wp2
    go_ret
    exact ⟨rfl, HB.out⟩
  go_wp2_with (refine law_load rfl _ rfl _ rfl _ HLEN.out HB3.out ?_; simp only [Act.put, List.setIfInBounds_toArray, List.set_cons_zero, List.set_cons_succ])
  refine (HP.out _ HE3.out).mono ?_
  rintro e w4 ⟨v4, rfl, ho4, hb4⟩
  obtain ⟨A4, c4, rfl, hn4, hc4, hr4⟩ := own_reads ho4
  have HE4 := Lib.hid (HE3.out.trans (hb4.mono HE3.out.size)); have HB4 := Lib.hid (HB3.out.below hb4 HB3.out.lt); have HR4 := Lib.hid hr4
  clear hb4 ho4 hr4
  go_wp2_with (refine law_load rfl _ rfl _ rfl _ HLEN.out HB4.out ?_; simp only [Act.put, List.setIfInBounds_toArray, List.set_cons_zero, List.set_cons_succ])
  refine (HQ.out _ HE4.out).mono ?_
  rintro e w5 ⟨v5, rfl, ho5, hb5⟩
  obtain ⟨A5, c5, rfl, hn5, hc5, hr5⟩ := own_reads ho5
  have HE5 := Lib.hid (HE4.out.trans (hb5.mono HE4.out.size)); have HR5 := Lib.hid hr5
  have HR45 := Lib.hid ((HR4.out.below hb5).more hb5.size)
  clear hb5 ho5 hr5
  go_wp2_with fail
  refine (bytesEq_any A4 A5 _ _ c4 c5 _ bs bs _ HR45.out HR5.out HLT.out HLT.out).mono ?_
  rw [decide_eq_true rfl]
  rintro e w6 ⟨rfl, rfl⟩
  have hxx : (x == x) = true := by simp
  go_wp2_with fail
  refine (HWK.out _).mono ?_
  rintro e w7 ⟨rfl, hb⟩
  have HB := Lib.hid (HE5.out.trans (hb.mono HE5.out.size))
  clear hb
  go_wp2
  go_ret
  exact ⟨rfl, HB.out⟩
end Go.Proofs.YtipfhamhiaeieaaDoor
