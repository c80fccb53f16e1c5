/-
 PackGets: the walk. Conditions: bytes that can be read. (Printed by packgets.py.)
-/
import Derived.Test.YtmepaeahchiglaaGreatDoorZdao
import Derived.Test.YtmepaeahchiglaaGreatDoorZdbl
set_option maxRecDepth 20000
set_option maxHeartbeats 8000000
set_option linter.unusedSimpArgs false
set_option linter.unusedVariables false
namespace Go.Proofs.YtmepaeahchiglaaGreatDoor
open Go.RowKit Go.Lib
theorem Oe (xs : List UInt8) : (xs.map fun b => Value.int .u8 b.toNat) = (xs.map UInt8.toNat).map bv := by rw [List.map_map]; rfl
theorem Es (w : World) (A : Option Addr) (n c B : Nat) (bs : List Nat) (hr : Reads w B 1 A n (bs.map bv)) (hB : B ≤ w.heap.size) (hn : n ≤ c) (hc : c ≤ maxLen) (hs : n ≤ 1000000000) (hb : ∀ b ∈ bs, b < 256) :
 Calls Tryz.prog 18 #[.slice A n c] w fun e w' => e = .returned (.int .i64 (mR bs).2) ∧ Below w.heap.size w w' := by
 have ae := BU w A n c B bs hr hB hn hc hs hb
 generalize mR bs = x at *
 obtain ⟨p, er⟩ := x
 clear hr hb
 go_enter Tryz.func18, Tryz.ntmps18
 go_wp2_with fail
 refine ae.mono ?_
 rintro e w1 ⟨cs, rfl, bV, hb1⟩
 obtain ⟨v1, v2, v3, v4, v5, v6, v7, v8, rfl, x1, x2, x3, x4, x5, x6, x7, x8⟩ := bV
 obtain ⟨B1, b1, rfl⟩ := x1.form
 obtain ⟨B2, b2, rfl⟩ := x2.form
 obtain ⟨B3, b3, rfl⟩ := x3.form
 obtain ⟨B4, b4, rfl⟩ := x4.form
 obtain ⟨B5, b5, rfl⟩ := x5.form
 obtain ⟨B6, b6, rfl⟩ := x6.form
 obtain ⟨B7, b7, rfl⟩ := x7.form
 obtain ⟨B8, b8, rfl⟩ := x8.form
 have hb2 := hb1.alloc hb1.size (.cells #[.slice B1 p.aK.length b1, .slice B2 p.aG.length b2, .slice B3 p.marks.length b3, .slice B4 p.tree.length b4, .slice B5 p.au.length b5, .slice B6 p.on.length b6, .slice B7 p.aA.length b7, .slice B8 p.entries.length b8] 33)
 have HB2 := qh hb2
 clear ae hb1 hb2 x1 x2 x3 x4 x5 x6 x7 x8
 go_wp2
 go_ret
 exact ⟨rfl, HB2.out⟩
theorem pM {w : World} {base q n c k : Nat} {bs : List Nat} (h : w.ownsRow base 5 1 (.slice (some ⟨q, 0, none⟩) n c) n (bs.map bv)) (hb : ∀ x ∈ bs, x < 256) {x : Int} (h0 : 0 ≤ x) (h1 : x < 256) :
 ∃ bs' : List Nat, (w.setCell ⟨q, k, none⟩ (.int .u8 x)).ownsRow base 5 1 (.slice (some ⟨q, 0, none⟩) n c) n (bs'.map bv) ∧ ∀ y ∈ bs', y < 256 := by
 refine ⟨bs.set k x.toNat, ?_, fun y hy => ?_⟩
 ·have := Me (k := k) h (.int .u8 x)
  rw [List.map_set, show bv x.toNat = Value.int .u8 x by show Value.int .u8 ((x.toNat : Nat) : Int) = _; rw [Int.toNat_of_nonneg h0]]
  exact this
 ·rcases List.mem_or_eq_of_mem_set hy with h2 | h2
  ·exact hb y h2
  ·omega
theorem Bn {w : World} {base n c size : Nat} {e : TypeId} {A : Option Addr} {xs : List Value} (h : w.ownsRow base e size (.slice A n c) n xs) (hn : 0 < n) : ∃ q cur, A = some ⟨q, 0, none⟩ ∧ base ≤ q ∧ Blk w q e cur ∧ cur.toList.take (n * size) = xs := by
 rcases h.2 with ⟨h', h''⟩ | ⟨q, cap, cur, h', hb, hg', h3, h4, hs, ht⟩
 ·omega
 ·simp only [Value.slice.injEq] at h'
  exact ⟨q, cur, h'.1, hb, hg', ht⟩
theorem aP.jF {α : Type} {P : World → Nat → α → List Value → Prop} {k B B' : Nat} {w : World} {l : List α} {v : Value} (h : aP P k w B l v) (hB : B ≤ B') (hi : ∀ x cs, P w B x cs → P w B' x cs) : aP P k w B' l v :=
 h.imp (fun _ _ _ hr => hr.more hB) fun x _ cs => hi x cs
theorem dx.jF {w : World} {B B' : Nat} {p : Pj} {cs : List Value} (hB : B ≤ B') (h : dx w B p cs) : dx w B' p cs := by
 obtain ⟨v1, v2, v3, v4, v5, v6, v7, v8, e, h1, h2, h3, h4, h5, h6, h7, h8⟩ := h
 have hf : ∀ f cs, bn w B f cs → bn w B' f cs := fun f cs ⟨v, e, h⟩ => ⟨v, e, aP.jF h hB fun _ _ h => h⟩
 exact ⟨v1, v2, v3, v4, v5, v6, v7, v8, e, aP.jF h1 hB fun _ _ h => h, aP.jF h2 hB fun _ _ h => h, aP.jF h3 hB fun _ _ h => h, aP.jF h4 hB fun _ _ h => h, aP.jF h5 hB fun _ _ h => h.more hB, aP.jF h6 hB fun _ _ ⟨v, e, h⟩ => ⟨v, e, aP.jF h hB fun _ _ h => h⟩, aP.jF h7 hB hf, aP.jF h8 hB fun _ _ ⟨v, e, h⟩ => ⟨v, e, aP.jF h hB hf⟩⟩
theorem MH {bs : List Nat} (hb : ∀ b ∈ bs, b < 256) (hs : bs.length ≤ 1000000000) : ∀ x ∈ (mR bs).1.au, x.name.size ≤ maxLen := by
 unfold mR
 split
 ·intro x hx; cases hx
 ·split
  ·intro x hx; cases hx
  ·cases h : iN ((bs.take (bs.length - 4)).drop 4) with
   | none => intro x hx; cases hx
   | some q =>
     obtain ⟨p, r⟩ := q
     have hz := (qF _ p r (fun c hc => hb c (List.mem_of_mem_take (List.mem_of_mem_drop hc))) h).1.1
     cases r with
     | cons y r => intro x hx; cases hx
     | nil =>
       show ∀ x ∈ (if iX p = 0 then (p, (0 : Int)) else (rR, iX p)).1.au, _
       split
       ·intro x hx
        have h1 := hz.o5 x hx
        rw [List.length_drop, List.length_take] at h1
        unfold maxLen
        omega
       ·intro x hx; cases hx
theorem packGets_law (w : World) (A : Option Addr) (n c : Nat) (xs : List UInt8) (right : Bool) (hx : ReadB w w.heap.size A n xs) (hn : n ≤ c) (hc : c ≤ maxLen) :
 Calls Tryz.prog 4 #[.slice A n c, .bool right] w fun e w' => e = .returned (.bool true) ∧ Below w.heap.size w w' := by
 have Zi := qh FO
 by_cases hg : (20000 : Int) < n
 ·clear hx
  unfold maxLen at hc
  go_enter Tryz.func4, Tryz.ntmps4
  go_wp2_with fail
  refine (Zi.out _).mono ?_
  rintro e w1 ⟨rfl, hb⟩
  have HB := qh hb
  clear hb
  go_wp2
  go_ret
  exact ⟨rfl, HB.out⟩
 have hm256 : ∀ b ∈ xs.map UInt8.toNat, b < 256 := fun _ hc => by obtain ⟨x, _, rfl⟩ := List.mem_map.1 hc; exact x.toNat_lt
 replace hx : Reads w w.heap.size 1 A n ((xs.map UInt8.toNat).map bv) := by rw [← Oe]; exact hx
 generalize xs.map UInt8.toNat = bs at *
 have HX := qh hx; have Il := qh hm256
 unfold maxLen at hc
 clear hx hm256
 go_enter Tryz.func4, Tryz.ntmps4
 go_wp2_with fail
 refine (vV A n c _ w w.heap.size HX.out (Kr bs) (Nat.le_refl _) (by omega)).mono ?_
 rintro e w1 ⟨v1, rfl, ho1, hb1⟩
 obtain ⟨A1, c1, rfl, hn1, hc1⟩ := ownsRow_form ho1
 have oW := qh ho1; have HB1 := qh hb1
 have RB := hc1
 unfold maxLen at hc1
 clear ho1 hb1
 go_upto_region 5 with fail
 go_cut [26] (fun v wx => v = .bool (right && decide (4 ≤ n)) ∧ w1 = wx)
 case first =>
  cases right with
  | false =>
    go_wp2
    go_meet
    exact ⟨rfl, rfl⟩
  | true =>
    by_cases h4 : 4 ≤ n
    ·have RP : (0 : Int) ≤ (n : Int) - 4 := by omega
     go_wp2
     go_meet
     exact ⟨by first | (simp; done) | (simp; omega), rfl⟩
    ·have RP : ¬ (0 : Int) ≤ (n : Int) - 4 := by omega
     go_wp2
     go_meet
     exact ⟨by first | (simp; done) | (simp; omega), rfl⟩
 case rest =>
 obtain ⟨rfl, rfl⟩ := hcut
 go_upto_if 26 with fail
 go_cut [] (fun wx => ∃ bs' : List Nat, wx.ownsRow w.heap.size 5 1 (.slice A1 n c1) n (bs'.map bv) ∧ (∀ b ∈ bs', b < 256) ∧ Below w.heap.size w wx)
 case first =>
  cases right with
  | false =>
    rw [Bool.false_and]
    go_wp2
    go_meet
    exact ⟨bs, oW.out, Il.out, HB1.out⟩
  | true =>
    by_cases h4 : 4 ≤ n
    ·have RP : (0 : Int) ≤ (n : Int) - 4 := by omega
     rw [Bool.true_and, decide_eq_true h4]
     obtain ⟨A3, u1, u2⟩ := rq A1 n c1 (n - 4) (by omega) hn1
     have e4 : ((n - 4 : Nat) : Int) = (n : Int) - 4 := by omega
     rw [e4] at u1
     have hr3 := u2 w1 w1.heap.size _ (Reads.of_own oW.out)
     rw [← List.map_take] at hr3
     have hbt : ∀ x ∈ bs.take (n - 4), x < 256 := fun x hx => Il.out x (List.mem_of_mem_take hx)
     have hsum := uJ A3 (n - 4) c1 ((bs.take (n - 4)).map UInt8.ofNat) w1 (uL hr3 hbt) (by unfold maxLen; omega)
     rw [tV hbt] at hsum
     have zt := yT hbt
     obtain ⟨s, hs⟩ : ∃ s, oD (bs.take (n - 4)) = s := ⟨_, rfl⟩
     rw [hs] at hsum zt
     obtain ⟨q, cur, rfl, hq, hblk, -⟩ := Bn oW.out (by omega)
     have KO := qh hsum
     clear hsum hr3 hbt hs u2 e4 hblk cur
     go_wp2_with fail
     refine KO.out.mono ?_
     rintro e w2 ⟨rfl, rfl⟩
     go_wp2
     go_loopw [31] (fun i wr => ∃ j : Nat, j ≤ 4 ∧ i = .int .i64 j ∧ ∃ bs' : List Nat, wr.ownsRow w.heap.size 5 1 (.slice (some ⟨q, 0, none⟩) n c1) n (bs'.map bv) ∧ (∀ b ∈ bs', b < 256) ∧ Below w.heap.size w wr) (fun i _ => 4 - (Lib.intOf i).toNat)
     case atStart => exact ⟨0, by omega, rfl, bs, oW.out, Il.out, HB1.out⟩
     case round =>
      obtain ⟨j, hj, rfl, bs', ho, hlt, hb⟩ := hrel
      have HO := qh ho; have KU := qh hlt; have HB := qh hb
      clear ho hlt hb
      by_cases hj4 : j < 4
      ·obtain ⟨q', cur, hqq, hq', hblk, htk⟩ := Bn HO.out (by omega)
       obtain rfl : q = q' := by
        injection hqq with hqq
        injection hqq
       have bW : ∀ k : Nat, k < n → ∃ u, wr.cell? ⟨q, k, none⟩ = some u := fun k hk => by
        rw [hblk.cell k, ← Array.getElem?_toList]
        have hl : (cur.toList.take (n * 1)).length = n := by
         rw [htk, List.length_map]
         have := HO.out.1; simpa using this
        rw [List.length_take] at hl
        exact ⟨_, List.getElem?_eq_getElem (by omega)⟩
       have hfz := fun k : Nat => hblk.frozen k
       have VU := qh hfz; have Ip := qh bW
       clear hblk htk hfz bW hqq
       by_cases hj10 : j = 0
       ·subst hj10
        obtain ⟨u, hu⟩ := Ip.out (n - 4 + 0) (by omega)
        have hf := VU.out (n - 4 + 0)
        obtain ⟨k, hk⟩ : ∃ k, n - 4 + 0 = k := ⟨_, rfl⟩
        have cB : (n : Int) - 4 + 0 = (k : Int) := by omega
        have hk0 : (n : Int) - 4 = (k : Int) - 0 := by omega
        rw [hk] at hu hf
        obtain ⟨bs2, ho2, hlt2⟩ := pM (k := k) (x := (s : Int) % 256) HO.out KU.out (by omega) (by omega)
        have hb2 := HB.out.setCell (p := ⟨q, k, none⟩) (by show w.heap.size ≤ q; omega) (.int .u8 ((s : Int) % 256))
        have jf := qh ho2; have EG := qh hlt2; have HB2 := qh hb2; have Qr := qh cB
        clear ho2 hlt2 hb2 hk0 hk
        go_wp2
        skip
        go_roundw
        case rel => exact ⟨1, by omega, by go_num, bs2, jf.out, EG.out, HB2.out⟩
        case measure => simp [Lib.intOf]
       by_cases hj11 : j = 1
       ·subst hj11
        obtain ⟨u, hu⟩ := Ip.out (n - 4 + 1) (by omega)
        have hf := VU.out (n - 4 + 1)
        obtain ⟨k, hk⟩ : ∃ k, n - 4 + 1 = k := ⟨_, rfl⟩
        have cB : (n : Int) - 4 + 1 = (k : Int) := by omega
        have hk0 : (n : Int) - 4 = (k : Int) - 1 := by omega
        rw [hk] at hu hf
        obtain ⟨bs2, ho2, hlt2⟩ := pM (k := k) (x := (s : Int) / 256 % 256) HO.out KU.out (by omega) (by omega)
        have hb2 := HB.out.setCell (p := ⟨q, k, none⟩) (by show w.heap.size ≤ q; omega) (.int .u8 ((s : Int) / 256 % 256))
        have jf := qh ho2; have EG := qh hlt2; have HB2 := qh hb2; have Qr := qh cB
        clear ho2 hlt2 hb2 hk0 hk
        go_wp2
        skip
        go_roundw
        case rel => exact ⟨2, by omega, by go_num, bs2, jf.out, EG.out, HB2.out⟩
        case measure => simp [Lib.intOf]
       by_cases hj12 : j = 2
       ·subst hj12
        obtain ⟨u, hu⟩ := Ip.out (n - 4 + 2) (by omega)
        have hf := VU.out (n - 4 + 2)
        obtain ⟨k, hk⟩ : ∃ k, n - 4 + 2 = k := ⟨_, rfl⟩
        have cB : (n : Int) - 4 + 2 = (k : Int) := by omega
        have hk0 : (n : Int) - 4 = (k : Int) - 2 := by omega
        rw [hk] at hu hf
        obtain ⟨bs2, ho2, hlt2⟩ := pM (k := k) (x := (s : Int) / 65536 % 256) HO.out KU.out (by omega) (by omega)
        have hb2 := HB.out.setCell (p := ⟨q, k, none⟩) (by show w.heap.size ≤ q; omega) (.int .u8 ((s : Int) / 65536 % 256))
        have jf := qh ho2; have EG := qh hlt2; have HB2 := qh hb2; have Qr := qh cB
        clear ho2 hlt2 hb2 hk0 hk
        go_wp2
        skip
        go_roundw
        case rel => exact ⟨3, by omega, by go_num, bs2, jf.out, EG.out, HB2.out⟩
        case measure => simp [Lib.intOf]
       obtain rfl : j = 3 := by omega
       obtain ⟨u, hu⟩ := Ip.out (n - 4 + 3) (by omega)
       have hf := VU.out (n - 4 + 3)
       obtain ⟨k, hk⟩ : ∃ k, n - 4 + 3 = k := ⟨_, rfl⟩
       have cB : (n : Int) - 4 + 3 = (k : Int) := by omega
       have hk0 : (n : Int) - 4 = (k : Int) - 3 := by omega
       rw [hk] at hu hf
       obtain ⟨bs2, ho2, hlt2⟩ := pM (k := k) (x := (s : Int) / 16777216) HO.out KU.out (by omega) (by omega)
       have hb2 := HB.out.setCell (p := ⟨q, k, none⟩) (by show w.heap.size ≤ q; omega) (.int .u8 ((s : Int) / 16777216))
       have jf := qh ho2; have EG := qh hlt2; have HB2 := qh hb2; have Qr := qh cB
       clear ho2 hlt2 hb2 hk0 hk
       go_wp2
       skip
       go_roundw
       case rel => exact ⟨4, by omega, by go_num, bs2, jf.out, EG.out, HB2.out⟩
       case measure => simp [Lib.intOf]
      ·obtain rfl : j = 4 := by omega
       go_wp2
       go_meet
       exact ⟨bs', HO.out, KU.out, HB.out⟩
    ·have RP : ¬ (0 : Int) ≤ (n : Int) - 4 := by omega
     rw [Bool.true_and, decide_eq_false h4]
     go_wp2
     go_meet
     exact ⟨bs, oW.out, Il.out, HB1.out⟩
 case rest =>
 obtain ⟨bs', ho, hlt, hb⟩ := hcut
 clear oW HB1 HX Il
 have hbl : bs'.length = n := by have := ho.1; simpa using this
 have HO := qh ho; have Il := qh hlt; have HB := qh hb; have oU := qh hbl
 clear ho hlt hb hbl
 rename_i w0c
 go_wp2_with fail
 refine (vV A1 n c1 _ wc wc.heap.size (Reads.of_own HO.out) (Kr bs') (Nat.le_refl _) (by omega)).mono ?_
 rintro e w2 ⟨v2, rfl, ho2, hb2⟩
 obtain ⟨A2, c2, rfl, hn2, hc2⟩ := ownsRow_form ho2
 have hcm2 := hc2
 unfold maxLen at hc2
 have oW := qh (own_below' HO.out hb2); have HB2 := qh (HB.out.trans (hb2.mono HB.out.size)); have jf := qh ho2
 clear ho2 hb2 HO HB
 have fG := BU w2 A1 n c1 w2.heap.size bs' (Reads.of_own oW.out) (Nat.le_refl _) hn1 RB (by omega) Il.out
 have hsg := fun W (hr : Reads W W.heap.size 1 A2 n (bs'.map bv)) => Gh W A2 n c2 W.heap.size bs' hr (Nat.le_refl _) hn2 hcm2 (by omega) Il.out
 have hck := fun W (hr : Reads W W.heap.size 1 A1 n (bs'.map bv)) => Es W A1 n c1 W.heap.size bs' hr (Nat.le_refl _) hn1 RB (by omega) Il.out
 have hnm := MH Il.out (by rw [oU.out]; omega)
 obtain ⟨p, er, hpe⟩ : ∃ p er, mR bs' = (p, er) := ⟨_, _, rfl⟩
 rw [hpe] at fG hsg hck hnm
 simp only at hnm
 have mg := qh fG; have Zl := qh hsg; have Iq := qh hck; have rC := qh hnm
 clear fG hsg hck hnm hpe
 go_wp2_with fail
 refine mg.out.mono ?_
 rintro e w3 ⟨cs, rfl, bV, hb3⟩
 replace bV : dF w3 (dW w2 w3) p cs := bV
 have hpc := dF.toC (B := w3.heap.size) (fun b hb => hb.2) bV
 obtain ⟨v1, v2, v3, v4, v5, v6, v7, v8, rfl, x1, x2, x3, x4, x5, x6, x7, x8⟩ := bV
 obtain ⟨B1, b1, rfl⟩ := x1.form
 obtain ⟨B2, b2, rfl⟩ := x2.form
 obtain ⟨B3, b3, rfl⟩ := x3.form
 obtain ⟨B4, b4, rfl⟩ := x4.form
 obtain ⟨B5, b5, rfl⟩ := x5.form
 obtain ⟨B6, b6, rfl⟩ := x6.form
 obtain ⟨B7, b7, rfl⟩ := x7.form
 obtain ⟨B8, b8, rfl⟩ := x8.form
 clear x1 x2 x3 x4 x5 x6 x7 x8
 have hbw := (Below.refl w3.heap.size w3).alloc (Nat.le_refl _) (.cells #[.slice B1 p.aK.length b1, .slice B2 p.aG.length b2, .slice B3 p.marks.length b3, .slice B4 p.tree.length b4, .slice B5 p.au.length b5, .slice B6 p.on.length b6, .slice B7 p.aA.length b7, .slice B8 p.entries.length b8] 33)
 have hx4 := Blk.new w3 33 #[.slice B1 p.aK.length b1, .slice B2 p.aG.length b2, .slice B3 p.marks.length b3, .slice B4 p.tree.length b4, .slice B5 p.au.length b5, .slice B6 p.on.length b6, .slice B7 p.aA.length b7, .slice B8 p.entries.length b8]
 have hb4 := hb3.trans (hbw.mono hb3.size)
 have hpc4 := dx.keep (fun q hq => hbw.cell (p := q) hq) hpc
 obtain ⟨W4, CJ⟩ : ∃ W, w3.alloc (.cells #[.slice B1 p.aK.length b1, .slice B2 p.aG.length b2, .slice B3 p.marks.length b3, .slice B4 p.tree.length b4, .slice B5 p.au.length b5, .slice B6 p.on.length b6, .slice B7 p.aA.length b7, .slice B8 p.entries.length b8] 33) = W := ⟨_, rfl⟩
 rw [CJ] at hbw hx4 hb4 hpc4
 have hsz4 : w3.heap.size ≤ W4.heap.size := hbw.size
 have oW := qh (own_below' oW.out hb4); have jf := qh (own_below' jf.out hb4); have tK := qh (HB2.out.trans (hb4.mono HB2.out.size))
 have Po := qh hx4; have Zo := qh (dx.jF hsz4 hpc4); have FC := qh CJ
 have aj := qh (Zl.out W4 (Reads.of_own jf.out))
 clear hb3 hpc hbw hx4 hb4 hpc4 CJ HB2 mg Zl
 go_wp2_with (rw [FC.out])
 refine aj.out.mono ?_
 rintro e w5 ⟨cs, rfl, bV, hb5⟩
 replace bV : dF w5 (dW W4 w5) p cs := bV
 have hpc5 := dF.toC (B := w5.heap.size) (fun b hb => hb.2) bV
 obtain ⟨v1, v2, v3, v4, v5, v6, v7, v8, rfl, x1, x2, x3, x4, x5, x6, x7, x8⟩ := bV
 obtain ⟨D1, d1, rfl⟩ := x1.form
 obtain ⟨D2, d2, rfl⟩ := x2.form
 obtain ⟨D3, d3, rfl⟩ := x3.form
 obtain ⟨D4, d4, rfl⟩ := x4.form
 obtain ⟨D5, d5, rfl⟩ := x5.form
 obtain ⟨D6, d6, rfl⟩ := x6.form
 obtain ⟨D7, d7, rfl⟩ := x7.form
 obtain ⟨D8, d8, rfl⟩ := x8.form
 clear x1 x2 x3 x4 x5 x6 x7 x8
 have hbw := (Below.refl w5.heap.size w5).alloc (Nat.le_refl _) (.cells #[.slice D1 p.aK.length d1, .slice D2 p.aG.length d2, .slice D3 p.marks.length d3, .slice D4 p.tree.length d4, .slice D5 p.au.length d5, .slice D6 p.on.length d6, .slice D7 p.aA.length d7, .slice D8 p.entries.length d8] 33)
 have hx6 := Blk.new w5 33 #[.slice D1 p.aK.length d1, .slice D2 p.aG.length d2, .slice D3 p.marks.length d3, .slice D4 p.tree.length d4, .slice D5 p.au.length d5, .slice D6 p.on.length d6, .slice D7 p.aA.length d7, .slice D8 p.entries.length d8]
 have hb6 := hb5.trans (hbw.mono hb5.size)
 have hpc6 := dx.keep (fun q hq => hbw.cell (p := q) hq) hpc5
 obtain ⟨W6, OP⟩ : ∃ W, w5.alloc (.cells #[.slice D1 p.aK.length d1, .slice D2 p.aG.length d2, .slice D3 p.marks.length d3, .slice D4 p.tree.length d4, .slice D5 p.au.length d5, .slice D6 p.on.length d6, .slice D7 p.aA.length d7, .slice D8 p.entries.length d8] 33) = W := ⟨_, rfl⟩
 rw [OP] at hbw hx6 hb6 hpc6
 have hpq := dx.jF hb6.size (dx.keep (fun q hq => hb6.cell (p := q) hq) Zo.out)
 have hsame := Dc W6 W6.heap.size p _ _ hpq (dx.jF hbw.size hpc6) (Nat.le_refl _) rC.out
 have hx4 := Po.out.below hb6 Po.out.lt
 have d0 := hx4.cell 0; have d1 := hx4.cell 1; have d2 := hx4.cell 2; have d3 := hx4.cell 3; have d4 := hx4.cell 4; have d5 := hx4.cell 5; have d6 := hx4.cell 6; have d7 := hx4.cell 7
 have k0 := hx6.cell 0; have k1 := hx6.cell 1; have k2 := hx6.cell 2; have k3 := hx6.cell 3; have k4 := hx6.cell 4; have k5 := hx6.cell 5; have k6 := hx6.cell 6; have k7 := hx6.cell 7
 simp only [gq2] at d0 d1 d2 d3 d4 d5 d6 d7 k0 k1 k2 k3 k4 k5 k6 k7
 have oW := qh (own_below' oW.out hb6); have jf := qh (own_below' jf.out hb6); have Nn := qh (tK.out.trans (hb6.mono tK.out.size))
 have NQ := qh hsame; have VC := qh OP
 clear hb5 hpc5 hbw hx6 hb6 hpc6 hpq hsame hx4 OP tK Zo aj
 go_wp2_with (rw [VC.out])
 refine NQ.out.mono ?_
 rintro e w7 ⟨rfl, hb7⟩
 have oW := qh (own_below' oW.out hb7); have jf := qh (own_below' jf.out hb7); have Ir := qh (Nn.out.trans (hb7.mono Nn.out.size))
 have aj := qh (Iq.out w7 (Reads.of_own oW.out))
 have hee : (er == er) = true := beq_self_eq_true er
 clear hb7 d0 d1 d2 d3 d4 d5 d6 d7 k0 k1 k2 k3 k4 k5 k6 k7 Nn NQ Iq
 go_wp2_with fail
 refine aj.out.mono ?_
 rintro e w8 ⟨rfl, hb8⟩
 have oW := qh (own_below' oW.out hb8); have jf := qh (own_below' jf.out hb8); have Qu := qh (Ir.out.trans (hb8.mono Ir.out.size))
 have heq := mV A2 A1 n n c2 c1 w8.heap.size bs' bs' w8 (Reads.of_own jf.out) (Reads.of_own oW.out) Il.out Il.out
 rw [decide_eq_true rfl] at heq
 have PW := qh heq
 clear hb8 heq Ir aj
 go_wp2_with fail
 refine PW.out.mono ?_
 rintro e w9 ⟨rfl, rfl⟩
 go_wp2_with fail
 refine (Zi.out _).mono ?_
 rintro e w10 ⟨rfl, hb10⟩
 have Lj := qh (Qu.out.trans (hb10.mono Qu.out.size))
 clear hb10
 go_wp2
 go_ret
 exact ⟨rfl, Lj.out⟩
theorem open_b {H : Type} {enc : TypeId × Value → H} {P : Program} {t : TypeId} {W : World} {base b0 : Nat} {v : Value} {d : DataW H} {ps : List MemPlace} (ht : P.underlying t = some .bool) (hval : Value.okWide P W .any b0 t v) (_h : DataW.Trod enc P W base (fun _ => true) true t v d ps) : ∃ b, v = .bool b :=
 Go.WideShapes.okWide_bool ht hval
end Go.Proofs.YtmepaeahchiglaaGreatDoor
