/-
  layer 43: Same, two times the same law. Conditions: laws that can be read. (Printed by same.py.)
-/
import Derived.Test.YtmepaeahchiglaaGreatDoorZbaw
import Derived.Test.YtmepaeahchiglaaGreatDoorZbae
import Derived.Deep.QuietTactic
import Derived.BigQuiet
import Derived.Test.YtmepaeahchiglaaGreatDoorZban
import Derived.Deep.RegionHeldLaw
namespace Go.Proofs.YtmepaeahchiglaaGreatDoor
open Go.RowKit Go.Lib

set_option linter.unusedSimpArgs false in
set_option maxRecDepth 20000 in
set_option maxHeartbeats 4000000 in
theorem sameLaw_any (w : World) (B : Nat) (l : Lw) (cs1 cs2 : List Value) (h1 : LawC w B l cs1) (h2 : LawC w B l cs2) (hB : B ≤ w.heap.size) (hnm : l.name.size ≤ maxLen) :
    Calls Tryz.prog 169 #[.agg cs1.toArray, .agg cs2.toArray] w fun e w' => e = .returned (.bool true) ∧ Below w.heap.size w w' := by
  obtain ⟨k1a, s1a, n1a, lo1a, hi1a, A1a, m1a, c1a, k2a, s2a, n2a, lo2a, hi2a, A2a, m2a, c2a, A3a, c3a, A4a, c4a, rfl, -, -, -, -, hs3, hs4, hm3, hm4⟩ := h1.form
  obtain ⟨k1b, s1b, n1b, lo1b, hi1b, A1b, m1b, c1b, k2b, s2b, n2b, lo2b, hi2b, A2b, m2b, c2b, A3b, c3b, A4b, c4b, rfl, -, -, -, -, -, -, -, -⟩ := h2.form
  obtain ⟨nm, left, right, ifs, outs, mode⟩ := l
  simp only at hs3 hs4 hm3 hm4 hnm ⊢
  unfold maxLen at hm3 hm4 hnm
  have hst := ((Below.refl w.heap.size w).alloc (Nat.le_refl _) (.cells #[.string nm, .int .i64 k1a, .int .u32 s1a.1, .int .u32 s1a.2, .bool n1a, .int .i64 lo1a, .int .i64 hi1a, .slice A1a m1a c1a, .int .i64 k2a, .int .u32 s2a.1, .int .u32 s2a.2, .bool n2a, .int .i64 lo2a, .int .i64 hi2a, .slice A2a m2a c2a, .slice A3a ifs.length c3a, .slice A4a outs.length c4a, .int .i64 mode] 62)).alloc (by simp) (.cells #[.string nm, .int .i64 k1b, .int .u32 s1b.1, .int .u32 s1b.2, .bool n1b, .int .i64 lo1b, .int .i64 hi1b, .slice A1b m1b c1b, .int .i64 k2b, .int .u32 s2b.1, .int .u32 s2b.2, .bool n2b, .int .i64 lo2b, .int .i64 hi2b, .slice A2b m2b c2b, .slice A3b ifs.length c3b, .slice A4b outs.length c4b, .int .i64 mode] 62)
  have b1 := (Blk.new w 62 #[.string nm, .int .i64 k1a, .int .u32 s1a.1, .int .u32 s1a.2, .bool n1a, .int .i64 lo1a, .int .i64 hi1a, .slice A1a m1a c1a, .int .i64 k2a, .int .u32 s2a.1, .int .u32 s2a.2, .bool n2a, .int .i64 lo2a, .int .i64 hi2a, .slice A2a m2a c2a, .slice A3a ifs.length c3a, .slice A4a outs.length c4a, .int .i64 mode]).alloc (.cells #[.string nm, .int .i64 k1b, .int .u32 s1b.1, .int .u32 s1b.2, .bool n1b, .int .i64 lo1b, .int .i64 hi1b, .slice A1b m1b c1b, .int .i64 k2b, .int .u32 s2b.1, .int .u32 s2b.2, .bool n2b, .int .i64 lo2b, .int .i64 hi2b, .slice A2b m2b c2b, .slice A3b ifs.length c3b, .slice A4b outs.length c4b, .int .i64 mode] 62)
  have b2 := Blk.new (w.alloc (.cells #[.string nm, .int .i64 k1a, .int .u32 s1a.1, .int .u32 s1a.2, .bool n1a, .int .i64 lo1a, .int .i64 hi1a, .slice A1a m1a c1a, .int .i64 k2a, .int .u32 s2a.1, .int .u32 s2a.2, .bool n2a, .int .i64 lo2a, .int .i64 hi2a, .slice A2a m2a c2a, .slice A3a ifs.length c3a, .slice A4a outs.length c4a, .int .i64 mode] 62)) 62 #[.string nm, .int .i64 k1b, .int .u32 s1b.1, .int .u32 s1b.2, .bool n1b, .int .i64 lo1b, .int .i64 hi1b, .slice A1b m1b c1b, .int .i64 k2b, .int .u32 s2b.1, .int .u32 s2b.2, .bool n2b, .int .i64 lo2b, .int .i64 hi2b, .slice A2b m2b c2b, .slice A3b ifs.length c3b, .slice A4b outs.length c4b, .int .i64 mode]
  rw [World.size_alloc] at b2
  have hl1 := h1.below (hst.mono hB)
  have hl2 := h2.below (hst.mono hB)
  obtain ⟨Z0, hZ0⟩ : ∃ Z, (w.alloc (.cells #[.string nm, .int .i64 k1a, .int .u32 s1a.1, .int .u32 s1a.2, .bool n1a, .int .i64 lo1a, .int .i64 hi1a, .slice A1a m1a c1a, .int .i64 k2a, .int .u32 s2a.1, .int .u32 s2a.2, .bool n2a, .int .i64 lo2a, .int .i64 hi2a, .slice A2a m2a c2a, .slice A3a ifs.length c3a, .slice A4a outs.length c4a, .int .i64 mode] 62)).alloc (.cells #[.string nm, .int .i64 k1b, .int .u32 s1b.1, .int .u32 s1b.2, .bool n1b, .int .i64 lo1b, .int .i64 hi1b, .slice A1b m1b c1b, .int .i64 k2b, .int .u32 s2b.1, .int .u32 s2b.2, .bool n2b, .int .i64 lo2b, .int .i64 hi2b, .slice A2b m2b c2b, .slice A3b ifs.length c3b, .slice A4b outs.length c4b, .int .i64 mode] 62) = Z := ⟨_, rfl⟩
  have hsz0 : Z0.heap.size = w.heap.size + 1 + 1 := by rw [← hZ0]; simp
  rw [hZ0] at hst b1 b2 hl1 hl2
  have hp1 := fun W (hW : Below Z0.heap.size Z0 W) => law_parts (hl1.below (hW.mono (by omega)))
  have hp2 := fun W (hW : Below Z0.heap.size Z0 W) => law_parts (hl2.below (hW.mono (by omega)))
  have HZ0 := Lib.hid hZ0; have HST := Lib.hid hst; have HB1 := Lib.hid b1; have HB2 := Lib.hid b2; have HP1 := Lib.hid hp1; have HP2 := Lib.hid hp2
  clear hZ0 hst b1 b2 hl1 hl2 hp1 hp2 h1 h2 hs3 hs4
  show Calls _ _ #[.agg #[.string nm, .int .i64 k1a, .int .u32 s1a.1, .int .u32 s1a.2, .bool n1a, .int .i64 lo1a, .int .i64 hi1a, .slice A1a m1a c1a, .int .i64 k2a, .int .u32 s2a.1, .int .u32 s2a.2, .bool n2a, .int .i64 lo2a, .int .i64 hi2a, .slice A2a m2a c2a, .slice A3a ifs.length c3a, .slice A4a outs.length c4a, .int .i64 mode], .agg #[.string nm, .int .i64 k1b, .int .u32 s1b.1, .int .u32 s1b.2, .bool n1b, .int .i64 lo1b, .int .i64 hi1b, .slice A1b m1b c1b, .int .i64 k2b, .int .u32 s2b.1, .int .u32 s2b.2, .bool n2b, .int .i64 lo2b, .int .i64 hi2b, .slice A2b m2b c2b, .slice A3b ifs.length c3b, .slice A4b outs.length c4b, .int .i64 mode]] _ _
  go_enter Tryz.func169, Tryz.ntmps169
  go_wp2_with fail
  rw [HZ0.out]
  clear HZ0
  refine (same_any _ left _ _ Z0 B (Nat.le_refl _) (HP1.out _ (Below.refl _ _)).1 (HP2.out _ (Below.refl _ _)).1 (by omega)).mono ?_
  rintro e w1 ⟨rfl, hb1⟩
  obtain ⟨y0, y1, y2, y3, y4, y5, y6, y7, y8, y9, y10, y11, y12, y13, y14, y15, y16, y17⟩ := (HB1.out.below hb1 (by omega)).eighteen
  obtain ⟨v0, v1, v2, v3, v4, v5, v6, v7, v8, v9, v10, v11, v12, v13, v14, v15, v16, v17⟩ := (HB2.out.below hb1 (by omega)).eighteen
  have H1 := Lib.hid hb1
  have hsz1 := hb1.size
  clear hb1
  go_wp2_with fail
  refine (same_any _ right _ _ w1 B (Nat.le_refl _) (HP1.out _ H1.out).2.1 (HP2.out _ H1.out).2.1 (by omega)).mono ?_
  rintro e w2 ⟨rfl, hb2⟩
  clear y0 y1 y2 y3 y4 y5 y6 y7 y8 y9 y10 y11 y12 y13 y14 y15 y16 y17 v0 v1 v2 v3 v4 v5 v6 v7 v8 v9 v10 v11 v12 v13 v14 v15 v16 v17
  have hb2' := H1.out.trans (hb2.mono hsz1)
  obtain ⟨y0, y1, y2, y3, y4, y5, y6, y7, y8, y9, y10, y11, y12, y13, y14, y15, y16, y17⟩ := (HB1.out.below hb2' (by omega)).eighteen
  obtain ⟨v0, v1, v2, v3, v4, v5, v6, v7, v8, v9, v10, v11, v12, v13, v14, v15, v16, v17⟩ := (HB2.out.below hb2' (by omega)).eighteen
  have H2 := Lib.hid hb2'
  have hsz2 := hb2'.size
  clear hb2 hb2'
  go_wp2
  clear y0 y1 y2 y3 y4 y5 y6 y7 y8 y9 y10 y11 y12 y13 y14 y15 y16 y17 v0 v1 v2 v3 v4 v5 v6 v7 v8 v9 v10 v11 v12 v13 v14 v15 v16 v17
  go_loopw [5] (fun i wr => ∃ j : Nat, j ≤ ifs.length ∧ i = .int .i64 j ∧ Below Z0.heap.size Z0 wr) (fun i _ => ifs.length - (RowKit.intOf i).toNat)
  case atStart => exact ⟨0, Nat.zero_le _, rfl, H2.out⟩
  case round =>
    obtain ⟨j, hj, rfl, hb⟩ := hrel
    obtain ⟨y0, y1, y2, y3, y4, y5, y6, y7, y8, y9, y10, y11, y12, y13, y14, y15, y16, y17⟩ := (HB1.out.below hb (by omega)).eighteen
    obtain ⟨v0, v1, v2, v3, v4, v5, v6, v7, v8, v9, v10, v11, v12, v13, v14, v15, v16, v17⟩ := (HB2.out.below hb (by omega)).eighteen
    obtain ⟨-, -, r1, -⟩ := HP1.out _ hb
    obtain ⟨-, -, r2, -⟩ := HP2.out _ hb
    have HB := Lib.hid hb
    clear hb
    by_cases hlt : j < ifs.length
    · have hjI : (j : Int) < (ifs.length : Int) := by omega
      obtain ⟨ad1, rfl, had1, e0, e1⟩ := snd_cells r1 hlt
      obtain ⟨ad2, rfl, had2, f0, f1⟩ := snd_cells r2 hlt
      clear r1 r2
      generalize ifs[j] = s at *
      go_wp2
      go_quiet (fail)
      go_wp2
      go_roundw
      case rel => exact ⟨j + 1, by omega, by go_num, HB.out.trans (⟨rfl, rfl, rfl, Nat.le_refl _, fun _ _ => rfl⟩)⟩
      case measure => simp [RowKit.intOf]; omega
    · obtain rfl : j = ifs.length := by omega
      clear r1 r2
      go_wp2
      clear y0 y1 y2 y3 y4 y5 y6 y7 y8 y9 y10 y11 y12 y13 y14 y15 y16 y17 v0 v1 v2 v3 v4 v5 v6 v7 v8 v9 v10 v11 v12 v13 v14 v15 v16 v17
      go_loopw [6] (fun i wr => ∃ j : Nat, j ≤ outs.length ∧ i = .int .i64 j ∧ Below Z0.heap.size Z0 wr) (fun i _ => outs.length - (RowKit.intOf i).toNat)
      case atStart => exact ⟨0, Nat.zero_le _, rfl, HB.out⟩
      case round =>
        obtain ⟨j, hj, rfl, hb⟩ := hrel
        obtain ⟨y0, y1, y2, y3, y4, y5, y6, y7, y8, y9, y10, y11, y12, y13, y14, y15, y16, y17⟩ := (HB1.out.below hb (by omega)).eighteen
        obtain ⟨v0, v1, v2, v3, v4, v5, v6, v7, v8, v9, v10, v11, v12, v13, v14, v15, v16, v17⟩ := (HB2.out.below hb (by omega)).eighteen
        obtain ⟨-, -, -, r1⟩ := HP1.out _ hb
        obtain ⟨-, -, -, r2⟩ := HP2.out _ hb
        have HC := Lib.hid hb
        clear hb
        by_cases hlt : j < outs.length
        · have hjI : (j : Int) < (outs.length : Int) := by omega
          obtain ⟨ad1, rfl, had1, e0, e1, e2, e3, e4, e5⟩ := out_cells r1 hlt
          obtain ⟨ad2, rfl, had2, f0, f1, f2, f3, f4, f5⟩ := out_cells r2 hlt
          clear r1 r2
          generalize outs[j] = s at *
          go_wp2
          go_quiet (fail)
          go_wp2
          go_roundw
          case rel => exact ⟨j + 1, by omega, by go_num, HC.out.trans (⟨rfl, rfl, rfl, Nat.le_refl _, fun _ _ => rfl⟩)⟩
          case measure => simp [RowKit.intOf]; omega
        · obtain rfl : j = outs.length := by omega
          clear r1 r2
          go_wp2
          go_ret
          exact ⟨rfl, HST.out.trans (HC.out.mono (by omega))⟩
end Go.Proofs.YtmepaeahchiglaaGreatDoor
namespace Go.Proofs.YtmepaeahchiglaaGreatDoor
open Go.RowKit Go.Lib

/-- The cells of an element in a list. -/
theorem SlC.at_ {α : Type} {P : World → Nat → α → List Value → Prop} {k B n c : Nat} {w W : World} {A : Option Addr} {l : List α} (hk : ∀ x cs, P w B x cs → cs.length = k) (h : SlC P k w B l (.slice A n c)) (hb : Below w.heap.size w W) (hB : B ≤ w.heap.size) {i : Nat} (hi : i < l.length) :
    ∃ ad cs, A = some ad ∧ P w B l[i] cs ∧ (∀ u, cs[0]? = some u → W.cell? (ad.add (i * k)) = some u) ∧ (∀ j u, cs[j + 1]? = some u → W.cell? ⟨(ad.add (i * k)).block, (ad.add (i * k)).off + (j + 1), none⟩ = some u) ∧ ∀ j u, cs[j]? = some u → W.cell? ((ad.add (i * k)).add j) = some u := by
  obtain ⟨ad, cs, e, hbl, hP, hc⟩ := slC_cells hk h hi
  have h1 : ∀ j u, cs[j]? = some u → W.cell? (ad.add (i * k + j)) = some u := fun j u hu => by
    rw [hb.cell (p := ad.add (i * k + j)) (by rw [block_of_add]; omega)]
    exact hc j u hu
  exact ⟨ad, cs, e, hP, fun u hu => by have := h1 0 u hu; rwa [Nat.add_zero] at this, fun j u hu => by rw [← add_next ad (i * k) j]; exact h1 _ u hu, fun j u hu => by rw [add_add]; exact h1 j u hu⟩
set_option linter.unusedSimpArgs false in
set_option linter.unusedVariables false in
set_option maxRecDepth 20000 in
set_option maxHeartbeats 2000000 in
theorem eqStr_any (w : World) (B : Nat) (l : List (ByteArray)) (v v' : Value) (h : SlC StrC 1 w B l v) (h' : SlC StrC 1 w B l v') (hB : B ≤ w.heap.size) :
    Calls Tryz.prog 56 #[v, v'] w fun e w' => e = .returned (.bool true) ∧ Below w.heap.size w w' := by
  obtain ⟨A, n, c, rfl, hn⟩ := h.form
  obtain ⟨A', n', c', rfl, hn'⟩ := h'.form
  obtain rfl : n' = n := by rw [hn, hn']
  obtain ⟨-, hm1, hm2⟩ := h.len
  unfold maxLen at hm2
  have HH := Lib.hid h; have HH' := Lib.hid h'; have HN := Lib.hid hn
  clear h h' hn hn'
  go_enter Tryz.func56, Tryz.ntmps56
  go_wp2
  go_loopw [13] (fun i wr => ∃ k : Nat, k ≤ n' ∧ i = .int .i64 k ∧ Below w.heap.size w wr) (fun i _ => n' - (RowKit.intOf i).toNat)
  case atStart => exact ⟨0, by omega, rfl, Below.refl _ _⟩
  case round =>
    obtain ⟨k, hk, rfl, hbw⟩ := hrel
    have HBW := Lib.hid hbw
    clear hbw
    by_cases hlt : k < n'
    · have hkl : k < l.length := by have := HN.out; omega
      have hkI : (k : Int) < (n' : Int) := by omega
      obtain ⟨ad, cs, rfl, hP, hc0, hcc, -⟩ := SlC.at_ (fun x cs h => by obtain rfl : cs = [Value.string x] := h; rfl) HH.out HBW.out hB hkl
      obtain ⟨ad', cs', rfl, hP', hc0', hcc', -⟩ := SlC.at_ (fun x cs h => by obtain rfl : cs = [Value.string x] := h; rfl) HH'.out HBW.out hB hkl
      generalize l[k] = x at *
      obtain rfl : cs = [Value.string x] := hP
      obtain rfl : cs' = [Value.string x] := hP'
      have e0 := hc0 _ rfl
      have d0 := hc0' _ rfl
      rw [Nat.mul_one] at e0 d0
      clear hc0 hcc hc0' hcc'
      go_wp2
      go_region
      go_wp2
      go_roundw
      case rel => exact ⟨k + 1, by omega, by go_num, HBW.out.drew⟩
      case measure => simp [RowKit.intOf]; omega
    · obtain rfl : k = n' := by omega
      go_wp2
      go_ret
      exact ⟨rfl, HBW.out⟩
set_option linter.unusedSimpArgs false in
set_option linter.unusedVariables false in
set_option maxRecDepth 20000 in
set_option maxHeartbeats 2000000 in
theorem eqNam_any (w : World) (B : Nat) (l : List (Nam)) (v v' : Value) (h : SlC NmdC 3 w B l v) (h' : SlC NmdC 3 w B l v') (hB : B ≤ w.heap.size) :
    Calls Tryz.prog 57 #[v, v'] w fun e w' => e = .returned (.bool true) ∧ Below w.heap.size w w' := by
  obtain ⟨A, n, c, rfl, hn⟩ := h.form
  obtain ⟨A', n', c', rfl, hn'⟩ := h'.form
  obtain rfl : n' = n := by rw [hn, hn']
  obtain ⟨-, hm1, hm2⟩ := h.len
  unfold maxLen at hm2
  have HH := Lib.hid h; have HH' := Lib.hid h'; have HN := Lib.hid hn
  clear h h' hn hn'
  go_enter Tryz.func57, Tryz.ntmps57
  go_wp2
  go_loopw [13] (fun i wr => ∃ k : Nat, k ≤ n' ∧ i = .int .i64 k ∧ Below w.heap.size w wr) (fun i _ => n' - (RowKit.intOf i).toNat)
  case atStart => exact ⟨0, by omega, rfl, Below.refl _ _⟩
  case round =>
    obtain ⟨k, hk, rfl, hbw⟩ := hrel
    have HBW := Lib.hid hbw
    clear hbw
    by_cases hlt : k < n'
    · have hkl : k < l.length := by have := HN.out; omega
      have hkI : (k : Int) < (n' : Int) := by omega
      obtain ⟨ad, cs, rfl, hP, hc0, hcc, -⟩ := SlC.at_ (fun x cs h => by obtain rfl : cs = namC x := h; rfl) HH.out HBW.out hB hkl
      obtain ⟨ad', cs', rfl, hP', hc0', hcc', -⟩ := SlC.at_ (fun x cs h => by obtain rfl : cs = namC x := h; rfl) HH'.out HBW.out hB hkl
      generalize l[k] = x at *
      obtain rfl : cs = namC x := hP
      obtain rfl : cs' = namC x := hP'
      have e0 := hc0 _ rfl
      have d0 := hc0' _ rfl
      have e1 := hcc 0 _ rfl
      have d1 := hcc' 0 _ rfl
      have e2 := hcc 1 _ rfl
      have d2 := hcc' 1 _ rfl
      clear hc0 hcc hc0' hcc'
      go_wp2
      go_region
      go_wp2
      go_roundw
      case rel => exact ⟨k + 1, by omega, by go_num, HBW.out.drew⟩
      case measure => simp [RowKit.intOf]; omega
    · obtain rfl : k = n' := by omega
      go_wp2
      go_ret
      exact ⟨rfl, HBW.out⟩
set_option linter.unusedSimpArgs false in
set_option linter.unusedVariables false in
set_option maxRecDepth 20000 in
set_option maxHeartbeats 2000000 in
theorem eqMk_any (w : World) (B : Nat) (l : List (Mk)) (v v' : Value) (h : SlC MkdC 4 w B l v) (h' : SlC MkdC 4 w B l v') (hB : B ≤ w.heap.size) :
    Calls Tryz.prog 58 #[v, v'] w fun e w' => e = .returned (.bool true) ∧ Below w.heap.size w w' := by
  obtain ⟨A, n, c, rfl, hn⟩ := h.form
  obtain ⟨A', n', c', rfl, hn'⟩ := h'.form
  obtain rfl : n' = n := by rw [hn, hn']
  obtain ⟨-, hm1, hm2⟩ := h.len
  unfold maxLen at hm2
  have HH := Lib.hid h; have HH' := Lib.hid h'; have HN := Lib.hid hn
  clear h h' hn hn'
  go_enter Tryz.func58, Tryz.ntmps58
  go_wp2
  go_loopw [13] (fun i wr => ∃ k : Nat, k ≤ n' ∧ i = .int .i64 k ∧ Below w.heap.size w wr) (fun i _ => n' - (RowKit.intOf i).toNat)
  case atStart => exact ⟨0, by omega, rfl, Below.refl _ _⟩
  case round =>
    obtain ⟨k, hk, rfl, hbw⟩ := hrel
    have HBW := Lib.hid hbw
    clear hbw
    by_cases hlt : k < n'
    · have hkl : k < l.length := by have := HN.out; omega
      have hkI : (k : Int) < (n' : Int) := by omega
      obtain ⟨ad, cs, rfl, hP, hc0, hcc, -⟩ := SlC.at_ (fun x cs h => by obtain rfl : cs = markC x := h; rfl) HH.out HBW.out hB hkl
      obtain ⟨ad', cs', rfl, hP', hc0', hcc', -⟩ := SlC.at_ (fun x cs h => by obtain rfl : cs = markC x := h; rfl) HH'.out HBW.out hB hkl
      generalize l[k] = x at *
      obtain rfl : cs = markC x := hP
      obtain rfl : cs' = markC x := hP'
      have e0 := hc0 _ rfl
      have d0 := hc0' _ rfl
      have e1 := hcc 0 _ rfl
      have d1 := hcc' 0 _ rfl
      have e2 := hcc 1 _ rfl
      have d2 := hcc' 1 _ rfl
      have e3 := hcc 2 _ rfl
      have d3 := hcc' 2 _ rfl
      clear hc0 hcc hc0' hcc'
      go_wp2
      go_region
      go_wp2
      go_roundw
      case rel => exact ⟨k + 1, by omega, by go_num, HBW.out.drew⟩
      case measure => simp [RowKit.intOf]; omega
    · obtain rfl : k = n' := by omega
      go_wp2
      go_ret
      exact ⟨rfl, HBW.out⟩
set_option linter.unusedSimpArgs false in
set_option linter.unusedVariables false in
set_option maxRecDepth 20000 in
set_option maxHeartbeats 2000000 in
theorem eqInt_any (w : World) (B : Nat) (l : List (Int)) (v v' : Value) (h : SlC IntC 1 w B l v) (h' : SlC IntC 1 w B l v') (hB : B ≤ w.heap.size) :
    Calls Tryz.prog 126 #[v, v'] w fun e w' => e = .returned (.bool true) ∧ Below w.heap.size w w' := by
  obtain ⟨A, n, c, rfl, hn⟩ := h.form
  obtain ⟨A', n', c', rfl, hn'⟩ := h'.form
  obtain rfl : n' = n := by rw [hn, hn']
  obtain ⟨-, hm1, hm2⟩ := h.len
  unfold maxLen at hm2
  have HH := Lib.hid h; have HH' := Lib.hid h'; have HN := Lib.hid hn
  clear h h' hn hn'
  go_enter Tryz.func126, Tryz.ntmps126
  go_wp2
  go_loopw [5] (fun i wr => ∃ k : Nat, k ≤ n' ∧ i = .int .i64 k ∧ Below w.heap.size w wr) (fun i _ => n' - (RowKit.intOf i).toNat)
  case atStart => exact ⟨0, by omega, rfl, Below.refl _ _⟩
  case round =>
    obtain ⟨k, hk, rfl, hbw⟩ := hrel
    have HBW := Lib.hid hbw
    clear hbw
    by_cases hlt : k < n'
    · have hkl : k < l.length := by have := HN.out; omega
      have hkI : (k : Int) < (n' : Int) := by omega
      obtain ⟨ad, cs, rfl, hP, hc0, hcc, -⟩ := SlC.at_ (fun x cs h => by obtain rfl : cs = [Value.int .i64 x] := h; rfl) HH.out HBW.out hB hkl
      obtain ⟨ad', cs', rfl, hP', hc0', hcc', -⟩ := SlC.at_ (fun x cs h => by obtain rfl : cs = [Value.int .i64 x] := h; rfl) HH'.out HBW.out hB hkl
      generalize l[k] = x at *
      obtain rfl : cs = [Value.int .i64 x] := hP
      obtain rfl : cs' = [Value.int .i64 x] := hP'
      have e0 := hc0 _ rfl
      have d0 := hc0' _ rfl
      rw [Nat.mul_one] at e0 d0
      clear hc0 hcc hc0' hcc'
      go_wp2
      go_region
      go_wp2
      go_roundw
      case rel => exact ⟨k + 1, by omega, by go_num, HBW.out.drew⟩
      case measure => simp [RowKit.intOf]; omega
    · obtain rfl : k = n' := by omega
      go_wp2
      go_ret
      exact ⟨rfl, HBW.out⟩
theorem lawrow_run {w : World} {q : Addr} {cs : List Value} (hlen : cs.length = 18) (hc : ∀ j u, cs[j]? = some u → w.cell? (q.add j) = some u) : (loadVar 62 q).run Tryz.prog w = .ok (.agg cs.toArray) w := by
  obtain ⟨fs, hfs⟩ := law_under
  have hl : (loadCells q cs.length).run Tryz.prog w = .ok cs.toArray w := run_loadCells_list w q cs hc
  have hi := law_info
  cases hq : Tryz.prog.info? 62 with
  | none => rw [hq] at hi; cases hi
  | some i =>
    have hs : i.size = cs.length := by rw [hq] at hi; rw [hlen]; exact Option.some.inj hi
    have hagg : (isAgg 62).run Tryz.prog w = .ok true w := by
      unfold isAgg
      rw [Sem.run_bind, run_underlying hfs w]
      simp
    simp [loadVar, Sem.run_bind, hagg, sizeOf, typeInfo, hq, hs, hl]
/-- The cells behind an address. -/
def CellsR (W : World) (q : Addr) (cs : List Value) : Prop := ∀ j u, cs[j]? = some u → W.cell? (q.add j) = some u
theorem yieldsIf_lawrow {ops : Array Oper} {S : World → Prop} {op : Oper} {a : Act} (hw : Region.wanted op (yielded ops a.tmps) = true) (x : Operand) (ho : op.op = .load 62 x)
    (q : Addr) (hx : a.eval x = .pointer (some q)) (cs : List Value) (hlen : cs.length = 18) (hS : ∀ W, S W → CellsR W q cs) : YieldsIf Tryz.prog ops S op (.agg cs.toArray) a :=
  .inl ⟨hw, fun W hW => by
    unfold execOp
    simp only [ho, hx, Instr.loadAt, Instr.sureAddr, Sem.run_bind, Sem.run_pure, Result.andThen_ok, lawrow_run hlen (hS W hW)]⟩
set_option linter.unusedSimpArgs false in
set_option linter.unusedVariables false in
set_option maxRecDepth 20000 in
set_option maxHeartbeats 2000000 in
theorem eqLaws_any (w : World) (B : Nat) (l : List Lw) (v v' : Value) (h : SlC LawC 18 w B l v) (h' : SlC LawC 18 w B l v') (hB : B ≤ w.heap.size) (hnm : ∀ x ∈ l, x.name.size ≤ maxLen) :
    Calls Tryz.prog 125 #[v, v'] w fun e w' => e = .returned (.bool true) ∧ Below w.heap.size w w' := by
  obtain ⟨A, n, c, rfl, hn⟩ := h.form
  obtain ⟨A', n', c', rfl, hn'⟩ := h'.form
  obtain rfl : n' = n := by rw [hn, hn']
  obtain ⟨-, hm1, hm2⟩ := h.len
  unfold maxLen at hm2
  have HH := Lib.hid h; have HH' := Lib.hid h'; have HN := Lib.hid hn; have HNM := Lib.hid hnm
  clear h h' hn hn' hnm
  go_enter Tryz.func125, Tryz.ntmps125
  go_wp2
  go_loopw [5] (fun i wr => ∃ k : Nat, k ≤ n' ∧ i = .int .i64 k ∧ Below w.heap.size w wr) (fun i _ => n' - (RowKit.intOf i).toNat)
  case atStart => exact ⟨0, by omega, rfl, Below.refl _ _⟩
  case round =>
    obtain ⟨k, hk, rfl, hbw⟩ := hrel
    have HBW := Lib.hid hbw
    clear hbw
    by_cases hlt : k < n'
    · have hkl : k < l.length := by have := HN.out; omega
      have hkI : (k : Int) < (n' : Int) := by omega
      have hk0 : (0 : Int) ≤ (k : Int) := by omega
      obtain ⟨ad, cs, rfl, hP, -, -, hcc⟩ := SlC.at_ (fun _ _ h => law_len h) HH.out HBW.out hB hkl
      obtain ⟨ad', cs', rfl, hP', -, -, hcc'⟩ := SlC.at_ (fun _ _ h => law_len h) HH'.out HBW.out hB hkl
      have hxn := HNM.out _ (List.getElem_mem hkl)
      generalize l[k] = x at *
      have hl1 := law_len hP
      have hl2 := law_len hP'
      have hcall := sameLaw_any wr.drew B x cs cs' (hP.below (HBW.out.drew.mono hB)) (hP'.below (HBW.out.drew.mono hB)) (by have := HBW.out.drew.size; omega) hxn
      have hq : CellsR wr.drew (ad.add (k * 18)) cs ∧ CellsR wr.drew (ad'.add (k * 18)) cs' := ⟨hcc, hcc'⟩
      have hq2 : ∀ W, Below wr.drew.heap.size wr.drew W → CellsR W (ad.add (k * 18)) cs ∧ CellsR W (ad'.add (k * 18)) cs' := fun W hW => by
        obtain ⟨-, -, e1, hP1, -, -, hx1⟩ := SlC.at_ (fun _ _ h => law_len h) HH.out (HBW.out.drew.trans (hW.mono HBW.out.drew.size)) hB hkl
        exact ⟨fun j u hu => by
          have hlt := World.block_lt_of_cell? wr.drew _ (hcc j u hu)
          rw [hW.cell (p := (ad.add (k * 18)).add j) hlt]
          exact hcc j u hu, fun j u hu => by
          have hlt := World.block_lt_of_cell? wr.drew _ (hcc' j u hu)
          rw [hW.cell (p := (ad'.add (k * 18)).add j) hlt]
          exact hcc' j u hu⟩
      have HCALL := Lib.hid hcall; have HQ2 := Lib.hid hq2; have HL1 := Lib.hid hl1; have HL2 := Lib.hid hl2
      clear hcc hcc' hcall hP hP' hq2 hl1 hl2
      go_wp2
      refine wp_region_held_drew (S := (fun W => CellsR W (ad.add (k * 18)) cs ∧ CellsR W (ad'.add (k * 18)) cs')) (by kernel_rfl) ?_ (fun hHeld => ?_)
      · (try dsimp only)
        (first | exact hq | exact hs2)
      refine wpAnyH_take (i := 0) (v := ?_) rfl (by kernel_rfl) (by kernel_rfl) (by kernel_rfl) (fun _ _ _ h => h) (Or.inl ⟨by rfl, ?_⟩) (by assumption) ?_
      rotate_left
      · intro w hSw
        (try dsimp only at hSw)
        go_simp <;> with_reducible rfl
      try simp only [Act.put, List.getElem_toArray, List.getElem_cons_succ, List.getElem_cons_zero, List.setIfInBounds_toArray, List.set_cons_zero, List.set_cons_succ]
      refine wpAnyH_take (i := 1) (v := ?_) rfl (by kernel_rfl) (by kernel_rfl) (by kernel_rfl) (fun _ _ _ h => h) (Or.inl ⟨by rfl, ?_⟩) (by assumption) ?_
      rotate_left
      · intro w hSw
        (try dsimp only at hSw)
        go_simp <;> with_reducible rfl
      try simp only [Act.put, List.getElem_toArray, List.getElem_cons_succ, List.getElem_cons_zero, List.setIfInBounds_toArray, List.set_cons_zero, List.set_cons_succ]
      refine wpAnyH_take (i := 2) (v := ?_) rfl (by kernel_rfl) (by kernel_rfl) (by kernel_rfl) (fun _ _ _ h => h) (Or.inl ⟨by rfl, ?_⟩) (by assumption) ?_
      rotate_left
      · intro w hSw
        (try dsimp only at hSw)
        go_simp <;> with_reducible rfl
      try simp only [Act.put, List.getElem_toArray, List.getElem_cons_succ, List.getElem_cons_zero, List.setIfInBounds_toArray, List.set_cons_zero, List.set_cons_succ]
      refine wpAnyH_take (i := 3) (v := .agg cs.toArray) rfl (by kernel_rfl) (by kernel_rfl) (by kernel_rfl) (fun _ _ _ h => h) (yieldsIf_lawrow (by rfl) _ rfl (ad.add (k * 18)) (by rfl) cs HL1.out (fun W hW => hW.1)) (by assumption) ?_
      try simp only [Act.put, List.getElem_toArray, List.getElem_cons_succ, List.getElem_cons_zero, List.setIfInBounds_toArray, List.set_cons_zero, List.set_cons_succ]
      refine wpAnyH_take (i := 4) (v := ?_) rfl (by kernel_rfl) (by kernel_rfl) (by kernel_rfl) (fun _ _ _ h => h) (Or.inl ⟨by rfl, ?_⟩) (by assumption) ?_
      rotate_left
      · intro w hSw
        (try dsimp only at hSw)
        go_simp <;> with_reducible rfl
      try simp only [Act.put, List.getElem_toArray, List.getElem_cons_succ, List.getElem_cons_zero, List.setIfInBounds_toArray, List.set_cons_zero, List.set_cons_succ]
      refine wpAnyH_take (i := 5) (v := ?_) rfl (by kernel_rfl) (by kernel_rfl) (by kernel_rfl) (fun _ _ _ h => h) (Or.inl ⟨by rfl, ?_⟩) (by assumption) ?_
      rotate_left
      · intro w hSw
        (try dsimp only at hSw)
        go_simp <;> with_reducible rfl
      try simp only [Act.put, List.getElem_toArray, List.getElem_cons_succ, List.getElem_cons_zero, List.setIfInBounds_toArray, List.set_cons_zero, List.set_cons_succ]
      refine wpAnyH_take (i := 6) (v := ?_) rfl (by kernel_rfl) (by kernel_rfl) (by kernel_rfl) (fun _ _ _ h => h) (Or.inl ⟨by rfl, ?_⟩) (by assumption) ?_
      rotate_left
      · intro w hSw
        (try dsimp only at hSw)
        go_simp <;> with_reducible rfl
      try simp only [Act.put, List.getElem_toArray, List.getElem_cons_succ, List.getElem_cons_zero, List.setIfInBounds_toArray, List.set_cons_zero, List.set_cons_succ]
      refine wpAnyH_take (i := 7) (v := .agg cs'.toArray) rfl (by kernel_rfl) (by kernel_rfl) (by kernel_rfl) (fun _ _ _ h => h) (yieldsIf_lawrow (by rfl) _ rfl (ad'.add (k * 18)) (by rfl) cs' HL2.out (fun W hW => hW.2)) (by assumption) ?_
      try simp only [Act.put, List.getElem_toArray, List.getElem_cons_succ, List.getElem_cons_zero, List.setIfInBounds_toArray, List.set_cons_zero, List.set_cons_succ]
      refine wpAnyH_ready (rs := [8]) (by kernel_rfl) (by simp) ?_
      refine AllReadyH.cons rfl (fun K hK => ?_) AllReadyH.nil
      go_simp
      (try go_wp2_with fail)
      refine HCALL.out.mono ?_
      rintro e w2 ⟨rfl, hb2⟩
      have hs2 := HQ2.out w2 hb2
      have HB2 := Lib.hid (HBW.out.drew.trans (hb2.mono HBW.out.drew.size))
      clear hb2
      (try go_simp)
      refine hK.out _ _ ?_ (fun hHeld' => ?_)
      · (try dsimp only)
        (first | exact hq | exact hs2)
      clear hK K hHeld
      have hHeld := hHeld'
      clear hHeld'
      refine wpAnyH_take (i := 9) (v := ?_) rfl (by kernel_rfl) (by kernel_rfl) (by kernel_rfl) (fun _ _ _ h => h) (Or.inl ⟨by rfl, ?_⟩) (by assumption) ?_
      rotate_left
      · intro w hSw
        (try dsimp only at hSw)
        go_simp <;> with_reducible rfl
      try simp only [Act.put, List.getElem_toArray, List.getElem_cons_succ, List.getElem_cons_zero, List.setIfInBounds_toArray, List.set_cons_zero, List.set_cons_succ]
      refine wpAnyH_done (by kernel_rfl) ?_ _
      clear hHeld hs2 hq
      go_wp2
      go_roundw
      case rel => exact ⟨k + 1, by omega, by go_num, HB2.out⟩
      case measure => simp [RowKit.intOf]; omega
    · obtain rfl : k = n' := by omega
      go_wp2
      go_ret
      exact ⟨rfl, HBW.out⟩
end Go.Proofs.YtmepaeahchiglaaGreatDoor

