/-
  layer 43: lightLaw. Conditions: a law that can be read.
-/
import Derived.Test.YtipfhamhiaeieaaDoorZaah
import Derived.Test.YtipfhamhiaeieaaDoorZaPkRw
import Derived.Test.YtipfhamhiaeieaaDoorZaPkRl
namespace Go.Proofs.YtipfhamhiaeieaaDoor
open Go.RowKit Go.Lib

/-- A law's cells, those that its lengths are read from. -/
theorem law_at {w : World} {B : Nat} {l : Lw} {cs : List Value} (hl : LawC w B l cs) : ∃ A3 c3 A4 c4, cs[0]? = some (.string l.name) ∧ cs[15]? = some (.slice A3 l.ifs.length c3) ∧ cs[16]? = some (.slice A4 l.outs.length c4) ∧ l.ifs.length ≤ maxLen ∧ l.outs.length ≤ maxLen := by
  obtain ⟨k1, s1, n1, lo1, hi1, A1, m1, c1, k2, s2, n2, lo2, hi2, A2, m2, c2, A3, c3, A4, c4, rfl, -, -, -, -, -, -, h3, h4⟩ := hl.form
  exact ⟨A3, c3, A4, c4, rfl, rfl, rfl, h3, h4⟩
def lightL (l : Lw) : Bool := decide (l.name.size ≤ 300) && (decide (l.ifs.length ≤ 50) && decide (l.outs.length ≤ 50))
set_option maxRecDepth 20000 in
set_option maxHeartbeats 2000000 in
theorem light_any (w : World) (B : Nat) (l : Lw) (cs : List Value) (hl : LawC w B l cs) (hnm : l.name.size ≤ maxLen) :
    Calls Tryd.prog 11 #[.agg cs.toArray] w fun e w' => e = .returned (.bool (lightL l)) ∧ Below w.heap.size w w' := by
  obtain ⟨A3, c3, A4, c4, h0, h15, h16, h3, h4⟩ := law_at hl
  unfold maxLen at hnm h3 h4
  have hb0 := (Below.refl w.heap.size w).alloc (Nat.le_refl _) (.cells cs.toArray 31)
  have hblk := Blk.new w 31 cs.toArray
  have k0 := hblk.cell 0
  have k15 := hblk.cell 15
  have k16 := hblk.cell 16
  rw [List.getElem?_toArray] at k0 k15 k16
  rw [h0] at k0
  rw [h15] at k15
  rw [h16] at k16
  have HB0 := Lib.hid hb0
  obtain ⟨r, hr⟩ : ∃ r, lightL l = r := ⟨_, rfl⟩
  rw [hr]
  unfold lightL at hr
  generalize l.name = nm at *
  generalize l.ifs.length = x at *
  generalize l.outs.length = y at *
  have HR := Lib.hid hr
  clear hr hb0 hblk h0 h15 h16 hl
  by_cases h1 : (nm.size : Int) ≤ 300
  · by_cases h2 : (x : Int) ≤ 50
    · by_cases h5 : (y : Int) ≤ 50
      · have hr : r = true := by rw [← HR.out]; simp; omega
        subst hr
        go_enter Tryd.func11, Tryd.ntmps11
        go_wp2
        go_ret
        exact ⟨rfl, HB0.out⟩
      · have hr : r = false := by rw [← HR.out]; simp; omega
        subst hr
        go_enter Tryd.func11, Tryd.ntmps11
        go_wp2
        go_ret
        exact ⟨rfl, HB0.out⟩
    · have hr : r = false := by rw [← HR.out]; simp; omega
      subst hr
      go_enter Tryd.func11, Tryd.ntmps11
      go_wp2
      go_ret
      exact ⟨rfl, HB0.out⟩
  · have hr : r = false := by rw [← HR.out]; simp; omega
    subst hr
    go_enter Tryd.func11, Tryd.ntmps11
    go_wp2
    go_ret
    exact ⟨rfl, HB0.out⟩
end Go.Proofs.YtipfhamhiaeieaaDoor
namespace Go.Proofs.YtipfhamhiaeieaaDoor
open Go.RowKit Go.Lib

set_option maxRecDepth 20000 in
set_option maxHeartbeats 2000000 in
theorem refPutLaw_any (w : World) (B : Nat) (l : Lw) (cs : List Value) (hl : LawC w B l cs) (hB : B ≤ w.heap.size) (hnm : l.name.size ≤ maxLen) :
    Calls Tryd.prog 15 #[.agg cs.toArray] w (GivesBE w (putL l) (lawE l)) := by
  have hlen := law_len hl
  have hs4 := law_s32 hl
  have hck := fun W hW => refLawCheck_any W B l _ (hl.below (hW : Below B w W)) (by have := hW.size; omega) hnm
  have hwl := fun hok W (hW : Below B w W) => refLawB_any W B l _ (hl.below hW) (by have := hW.size; omega) hok
  have hbel0 := (Below.refl w.heap.size w).alloc (Nat.le_refl _) (.cells cs.toArray 31)
  have hb0 := Blk.new w 31 cs.toArray
  obtain ⟨bs, hbs⟩ : ∃ bs, putL l = bs := ⟨_, rfl⟩
  obtain ⟨le, hle⟩ : ∃ le, lawE l = le := ⟨_, rfl⟩
  rw [hbs, hle]
  simp only [hle] at hck
  have HCK := Lib.hid hck; have HWL := Lib.hid hwl; have HE0 := Lib.hid hbel0; have HB0 := Lib.hid hb0; have HLEN := Lib.hid hlen
  unfold putL at hbs
  unfold lawE at hle
  have hokL := fun h => okLaw_of (l := l) h hs4
  have HOKL := Lib.hid hokL
  clear hck hwl hbel0 hb0 hl hs4 hokL hlen
  unfold GivesBE
  by_cases h0 : lawOk l = true
  · rw [if_pos h0] at hbs hle
    subst hle
    have hok := HOKL.out h0
    have HBS := Lib.hid hbs; have HOK := Lib.hid hok
    clear hbs hok h0 HOKL
    go_enter Tryd.func15, Tryd.ntmps15
    go_wp2_with (refine law_load rfl _ rfl _ rfl _ HLEN.out HB0.out ?_; simp only [Act.put, List.setIfInBounds_toArray, List.set_cons_zero, List.set_cons_succ])
    refine (HCK.out _ (HE0.out.mono hB)).mono ?_
    rintro e w1 ⟨rfl, hb1⟩
    have hbx := HB0.out.below hb1 HB0.out.lt
    have hex := HE0.out.trans (hb1.mono HE0.out.size)
    have HBX := Lib.hid hbx
    have HEX := Lib.hid hex
    clear hb1 hbx hex
    go_wp2_with (refine law_load rfl _ rfl _ rfl _ HLEN.out HBX.out ?_; simp only [Act.put, List.setIfInBounds_toArray, List.set_cons_zero, List.set_cons_succ])
    refine (HWL.out HOK.out w1 (HEX.out.mono hB)).mono ?_
    rintro e w2 ⟨v, rfl, ho, hb2⟩
    have HO := Lib.hid ho; have HB2 := Lib.hid (HEX.out.trans (hb2.mono HEX.out.size))
    clear ho hb2
    go_wp2
    go_ret2
    refine ⟨_, rfl, ?_, HB2.out⟩
    rw [← HBS.out]
    exact own_mono HO.out HEX.out.size
  · rw [if_neg h0] at hbs hle
    subst hle hbs
    clear h0 HOKL
    go_enter Tryd.func15, Tryd.ntmps15
    go_wp2_with (refine law_load rfl _ rfl _ rfl _ HLEN.out HB0.out ?_; simp only [Act.put, List.setIfInBounds_toArray, List.set_cons_zero, List.set_cons_succ])
    refine (HCK.out _ (HE0.out.mono hB)).mono ?_
    rintro e w1 ⟨rfl, hb1⟩
    have HEX := Lib.hid (HE0.out.trans (hb1.mono HE0.out.size))
    clear hb1
    go_wp2
    go_ret2
    exact ⟨_, rfl, World.ownsRow_nil _ _ _ _, HEX.out⟩
end Go.Proofs.YtipfhamhiaeieaaDoor
