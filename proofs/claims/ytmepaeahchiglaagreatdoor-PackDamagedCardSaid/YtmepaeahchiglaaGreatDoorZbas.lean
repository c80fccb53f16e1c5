/-
  layer 42: Inventory, tools and Check of a project. Conditions: what can be read.
-/
import Derived.Test.YtmepaeahchiglaaGreatDoorZbaq
import Derived.Test.YtmepaeahchiglaaGreatDoorZbNtI6
import Derived.Test.YtmepaeahchiglaaGreatDoorZbar
import Derived.Test.YtmepaeahchiglaaGreatDoorZbac
import Derived.Laws.IdiomStrings
import Derived.Test.YtmepaeahchiglaaGreatDoorZbae
import Derived.Test.YtmepaeahchiglaaGreatDoorZbah
namespace Go.Proofs.YtmepaeahchiglaaGreatDoor
open Go.RowKit Go.Lib

def invE (p : Pj) : Int := if newE p.feats = 0 then addsE p.feats.length [] p.sounds else newE p.feats
theorem toolsE_eq (p : Pj) : toolsE p = if invE p = 0 then notK p.feats.length p.marks else invE p := by
  unfold toolsE invE
  by_cases h : newE p.feats = 0
  · rw [if_pos h, if_pos h]
  · rw [if_neg h, if_neg h, if_neg h]
theorem addsE_next {n k : Nat} {l : List Nam} (hk : k < l.length) (h : addsE n [] l = addsE n (l.take k) (l.drop k)) :
    (addE n (l.take k) l[k].1 l[k].2 = 0 → addsE n [] l = addsE n (l.take (k + 1)) (l.drop (k + 1))) ∧ (addE n (l.take k) l[k].1 l[k].2 ≠ 0 → addsE n [] l = addE n (l.take k) l[k].1 l[k].2) := by
  rw [List.drop_eq_getElem_cons hk] at h
  constructor
  · intro e
    rw [h, List.take_succ_eq_append_getElem hk]
    show (if _ then _ else _) = _
    rw [if_pos e]
  · intro e
    rw [h]
    show (if _ then _ else _) = _
    rw [if_neg e]
/-- What can be read of a project. -/
structure PjRd (p : Pj) : Prop where
  o1 : ∀ s ∈ p.feats, s.size ≤ maxLen
  o2 : ∀ x ∈ p.sounds, x.1.size ≤ maxLen ∧ ok32 x.2
  o3 : ∀ m ∈ p.marks, okMk m
  o4 : ∀ x ∈ p.tree, x.2.size ≤ maxLen
  o5 : ∀ l ∈ p.laws, l.name.size ≤ maxLen
  o6 : ∀ l ∈ p.on, l.length ≤ 1000000000
  o7 : ∀ f ∈ p.protos, ∀ s ∈ f.w, ok32 s
  o8 : ∀ x ∈ p.entries, x.gloss.size ≤ maxLen ∧ ∀ f ∈ x.forms, ∀ s ∈ f.w, ok32 s
def InvPost (w : World) (p : Pj) (e : Ending) (w' : World) : Prop :=
  Below w.heap.size w w' ∧ ((invE p = 0 ∧ ∃ g, e = .returned (.tuple #[wptr g, .int .i64 0]) ∧ InvM w' (NewB4 w w') g p.feats p.sounds) ∨ (invE p ≠ 0 ∧ e = .returned (.tuple #[.pointer none, .int .i64 (invE p)])))
set_option linter.unusedSimpArgs false in
set_option maxRecDepth 20000 in
set_option maxHeartbeats 4000000 in
theorem inventory_any (w : World) (B : Nat) (p : Pj) (cs : List Value) (hp : ProjC w B p cs) (hB : B ≤ w.heap.size) (hr : PjRd p) :
    Calls Tryz.prog 127 #[.agg cs.toArray] w (InvPost w p) := by
  obtain ⟨v1, v2, v3, v4, v5, v6, v7, v8, rfl, q1, q2, q3, q4, q5, q6, q7, q8⟩ := hp
  obtain ⟨A3, m3, c3, rfl, -⟩ := q3.form
  obtain ⟨A4, m4, c4, rfl, -⟩ := q4.form
  obtain ⟨A5, m5, c5, rfl, -⟩ := q5.form
  obtain ⟨A6, m6, c6, rfl, -⟩ := q6.form
  obtain ⟨A7, m7, c7, rfl, -⟩ := q7.form
  obtain ⟨A8, m8, c8, rfl, -⟩ := q8.form
  obtain ⟨A1, c1, rfl, ⟨h11, h12⟩, r1⟩ := q1.flat
  obtain ⟨A2, c2, rfl, ⟨h21, h22⟩, r2⟩ := q2.flat
  rw [flatMap_one] at r1
  unfold maxLen at h12 h22
  obtain ⟨o, ho⟩ : ∃ o, Obj.cells #[.slice A1 p.feats.length c1, .slice A2 p.sounds.length c2, .slice A3 m3 c3, .slice A4 m4 c4, .slice A5 m5 c5, .slice A6 m6 c6, .slice A7 m7 c7, .slice A8 m8 c8] 33 = o := ⟨_, rfl⟩
  have hb0 := (Below.refl w.heap.size w).alloc (Nat.le_refl _) o
  have hk0 := Blk.new w 33 #[.slice A1 p.feats.length c1, .slice A2 p.sounds.length c2, .slice A3 m3 c3, .slice A4 m4 c4, .slice A5 m5 c5, .slice A6 m6 c6, .slice A7 m7 c7, .slice A8 m8 c8]
  rw [ho] at hk0
  have hnew := newI_any A1 p.feats.length c1 B p.feats (w.alloc o) (Reads.below r1 (hb0.mono hB)) (by rw [World.size_alloc]; omega) h11 hr.o1
  have hsnd := fun (W : World) (hW : Below w.heap.size w W) => Reads.below r2 (hW.mono hB)
  have hle1 : w.heap.size ≤ (w.alloc o).heap.size := by rw [World.size_alloc]; omega
  have hlt1 : w.heap.size < (w.alloc o).heap.size := by rw [World.size_alloc]; omega
  have hie : invE p = if newE p.feats = 0 then addsE p.feats.length [] p.sounds else newE p.feats := rfl
  have HO := Lib.hid ho; have HB0 := Lib.hid hb0; have HK0 := Lib.hid hk0; have HNEW := Lib.hid hnew; have HSND := Lib.hid hsnd; have HR := Lib.hid hr; have HIE := Lib.hid hie
  have g0 := hk0.cell 0
  simp only [List.getElem?_toArray, List.getElem?_cons_zero, List.getElem?_cons_succ] at g0
  obtain ⟨n, hn⟩ : ∃ n, p.sounds.length = n := ⟨_, rfl⟩
  have hk0' := hk0
  rw [hn] at h21 hk0'
  have HK0 := Lib.hid hk0'
  rw [hn]
  rw [hn] at ho
  have HO := Lib.hid ho
  have HN := Lib.hid hn
  clear q1 q2 q3 q4 q5 q6 q7 q8 r1 r2 ho hb0 hk0 hk0' hnew hsnd hr hie hn
  go_enter Tryz.func127, Tryz.ntmps127
  go_wp2_with (rw [HO.out])
  refine HNEW.out.mono ?_
  rintro e w1 ⟨hb1, hcase⟩
  have HB1 := Lib.hid (HB0.out.trans (hb1.mono hle1)); have HK1 := Lib.hid (HK0.out.below hb1 hlt1)
  have hs1 : w.heap.size < w1.heap.size := Nat.lt_of_lt_of_le hlt1 hb1.size
  clear hb1 g0 HNEW
  rcases hcase with ⟨hz, gi, rfl, hm⟩ | ⟨hz, rfl⟩
  · have hie := HIE.out
    rw [if_pos hz] at hie
    have HIE2 := Lib.hid hie
    have HM := Lib.hid (hm.mono (T := fun b => w.heap.size ≤ b ∧ b < w1.heap.size) fun b hb => ⟨Nat.le_trans hle1 hb.1, hb.2⟩)
    have g1 := HK1.out.cell 1
    simp only [List.getElem?_toArray, List.getElem?_cons_zero, List.getElem?_cons_succ] at g1
    clear hz hm hie
    go_wp2
    go_loopw [21] (fun i wr => ∃ k : Nat, k ≤ n ∧ i = .int .i64 k ∧ addsE p.feats.length [] p.sounds = addsE p.feats.length (p.sounds.take k) (p.sounds.drop k) ∧ InvM wr (fun b => w.heap.size ≤ b ∧ b < wr.heap.size) gi p.feats (p.sounds.take k) ∧ Below w.heap.size w wr) (fun i _ => n - (RowKit.intOf i).toNat)
    case atStart => exact ⟨0, by omega, rfl, by rw [List.take_zero, List.drop_zero], by rw [List.take_zero]; exact HM.out, HB1.out⟩
    case round =>
      obtain ⟨k, hk, rfl, hno, him, hb⟩ := hrel
      have HNO := Lib.hid hno; have HIM := Lib.hid him; have HB := Lib.hid hb
      clear hno him hb
      by_cases hlt : k < n
      · have hkl : k < p.sounds.length := by have := HN.out; omega
        have hkI : (k : Int) < (n : Int) := by omega
        have hk0 : (0 : Int) ≤ (k : Int) := by omega
        obtain ⟨ad, rfl, had, e0, e1, e2⟩ := nam_cells (HSND.out wr HB.out) hkl
        obtain ⟨hst, hbad⟩ := addsE_next hkl HNO.out
        have hox := HR.out.o2 _ (List.getElem_mem hkl)
        have htk : p.sounds.take (k + 1) = p.sounds.take k ++ [p.sounds[k]] := List.take_succ_eq_append_getElem hkl
        generalize p.sounds[k] = x at *
        obtain ⟨sy, sv, sa⟩ := x
        simp only [] at *
        have hba := HB.out.alloc HB.out.size (.cells #[.string sy, .int .u32 sv, .int .u32 sa] 74)
        have hbl := (Below.refl wr.heap.size wr).alloc (Nat.le_refl _) (.cells #[.string sy, .int .u32 sv, .int .u32 sa] 74)
        have hadd := add_any (w := wr.alloc (.cells #[.string sy, .int .u32 sv, .int .u32 sa] 74)) sy (sv, sa) (HIM.out.below hbl) (fun b hb => Nat.lt_of_lt_of_le hb.2 hbl.size) hox.2 hox.1
        obtain ⟨a, ha⟩ : ∃ a, addE p.feats.length (p.sounds.take k) sy (sv, sa) = a := ⟨_, rfl⟩
        unfold AddPost addL at hadd
        simp only [] at hadd
        rw [ha] at hst hbad hadd
        have HADD := Lib.hid hadd; have HST := Lib.hid hst; have HBAD := Lib.hid hbad; have HBA := Lib.hid hba; have HBL := Lib.hid hbl; have HTK := Lib.hid htk
        clear hadd hst hbad hba hbl hox htk ha
        go_wp2_with fail
        refine HADD.out.mono ?_
        rintro e w2 ⟨rfl, him2, hch⟩
        have HB2 := Lib.hid (HBA.out.trans (hch.below (B := w.heap.size) (fun i hi => hi.1) HBA.out.size))
        have hs2 := hch.size
        have HIM2 := Lib.hid (him2.mono (T := fun b => w.heap.size ≤ b ∧ b < w2.heap.size) fun b hb => by
          have h1 := HBL.out.size
          have h2 := HBA.out.size
          rcases hb with hb | hb
          · exact ⟨hb.1, by omega⟩
          · exact ⟨by have := hb.1; omega, hb.2⟩)
        clear him2 hch
        by_cases hz : a = 0
        · have hzI : (a != (0 : Int)) = false := by rw [hz]; rfl
          have him := HIM2.out
          rw [if_pos hz, ← HTK.out] at him
          have HIM3 := Lib.hid him
          have HST2 := Lib.hid (HST.out hz)
          clear hz him
          go_wp2
          go_roundw
          case rel => exact ⟨k + 1, by omega, by go_num, HST2.out, HIM3.out, HB2.out⟩
          case measure => simp [RowKit.intOf]; omega
        · have hzI : (a != (0 : Int)) = true := by rw [bne_iff_ne]; exact hz
          have hie := HIE2.out.trans (HBAD.out hz)
          have hfin : InvPost w p (.returned (.tuple #[.pointer none, .int .i64 a])) w2 := ⟨HB2.out, .inr ⟨by rw [hie]; exact hz, by rw [hie]⟩⟩
          have HF := Lib.hid hfin
          clear hz hie hfin
          go_wp2
          go_ret2
          exact HF.out
      · obtain rfl : k = n := by omega
        have hno := HNO.out
        have him := HIM.out
        rw [List.drop_of_length_le (by have := HN.out; omega)] at hno
        rw [List.take_of_length_le (by have := HN.out; omega)] at him
        have hie : invE p = 0 := HIE2.out.trans hno
        have hfin : InvPost w p (.returned (.tuple #[wptr gi, .int .i64 0])) wr := ⟨HB.out, .inl ⟨hie, gi, rfl, him.mono fun b hb => hb⟩⟩
        have HF := Lib.hid hfin
        clear hno him hie hfin
        go_wp2
        go_ret2
        exact HF.out
  · have hie := HIE.out
    rw [if_neg hz] at hie
    have hzI : (newE p.feats != (0 : Int)) = true := by rw [bne_iff_ne]; exact hz
    have hfin : InvPost w p (.returned (.tuple #[.pointer none, .int .i64 (newE p.feats)])) w1 := ⟨HB1.out, .inr ⟨by rw [hie]; exact hz, by rw [hie]⟩⟩
    have HF := Lib.hid hfin
    clear hz hie hfin
    go_wp2
    go_ret2
    exact HF.out
set_option linter.unusedSimpArgs false in
set_option maxRecDepth 20000 in
set_option maxHeartbeats 4000000 in
theorem tools_any (w : World) (B : Nat) (p : Pj) (cs : List Value) (hp : ProjC w B p cs) (hB : B ≤ w.heap.size) (hr : PjRd p) :
    Calls Tryz.prog 60 #[.agg cs.toArray] w fun e w' => (∃ a b, e = .returned (.tuple #[a, b, .int .i64 (toolsE p)])) ∧ Below w.heap.size w w' := by
  obtain ⟨v1, v2, v3, v4, v5, v6, v7, v8, rfl, q1, q2, q3, q4, q5, q6, q7, q8⟩ := hp
  have hp : ProjC w B p [v1, v2, v3, v4, v5, v6, v7, v8] := ⟨_, _, _, _, _, _, _, _, rfl, q1, q2, q3, q4, q5, q6, q7, q8⟩
  obtain ⟨A1, m1, c1, rfl, -⟩ := q1.form
  obtain ⟨A2, m2, c2, rfl, -⟩ := q2.form
  obtain ⟨A4, m4, c4, rfl, -⟩ := q4.form
  obtain ⟨A5, m5, c5, rfl, -⟩ := q5.form
  obtain ⟨A6, m6, c6, rfl, -⟩ := q6.form
  obtain ⟨A7, m7, c7, rfl, -⟩ := q7.form
  obtain ⟨A8, m8, c8, rfl, -⟩ := q8.form
  obtain ⟨A3, c3, rfl, ⟨h31, h32⟩, r3⟩ := q3.flat
  obtain ⟨n, hn⟩ : ∃ n, p.marks.length = n := ⟨_, rfl⟩
  rw [hn] at h31 hp r3 ⊢
  obtain ⟨o, ho⟩ : ∃ o, Obj.cells #[.slice A1 m1 c1, .slice A2 m2 c2, .slice A3 n c3, .slice A4 m4 c4, .slice A5 m5 c5, .slice A6 m6 c6, .slice A7 m7 c7, .slice A8 m8 c8] 33 = o := ⟨_, rfl⟩
  have hb0 := (Below.refl w.heap.size w).alloc (Nat.le_refl _) o
  have hk0 := Blk.new w 33 #[.slice A1 m1 c1, .slice A2 m2 c2, .slice A3 n c3, .slice A4 m4 c4, .slice A5 m5 c5, .slice A6 m6 c6, .slice A7 m7 c7, .slice A8 m8 c8]
  rw [ho] at hk0
  have hle1 : w.heap.size ≤ (w.alloc o).heap.size := by rw [World.size_alloc]; omega
  have hlt1 : w.heap.size < (w.alloc o).heap.size := by rw [World.size_alloc]; omega
  have hkp : ∀ q : Addr, q.block < B → (w.alloc o).cell? q = w.cell? q := fun q hq => hb0.cell (Nat.lt_of_lt_of_le hq hB)
  have hinv := inventory_any (w.alloc o) B p _ (ProjC.keep hkp hp) (Nat.le_trans hB hle1) hr
  have hmk := fun (W : World) (hW : Below w.heap.size w W) => Reads.below r3 (hW.mono hB)
  have hle := fun (W : World) (hW : Below w.heap.size w W) => Nat.le_trans hB hW.size
  have hte := toolsE_eq p
  obtain ⟨r, hr'⟩ : ∃ r, toolsE p = r := ⟨_, rfl⟩
  rw [hr'] at hte ⊢
  have g0 := hk0.cell 0
  have g1 := hk0.cell 1
  have g2 := hk0.cell 2
  have g3 := hk0.cell 3
  have g4 := hk0.cell 4
  have g5 := hk0.cell 5
  have g6 := hk0.cell 6
  have g7 := hk0.cell 7
  simp only [List.getElem?_toArray, List.getElem?_cons_zero, List.getElem?_cons_succ] at g0 g1 g2 g3 g4 g5 g6 g7
  have HO := Lib.hid ho; have HB0 := Lib.hid hb0; have HK0 := Lib.hid hk0; have HINV := Lib.hid hinv; have HMK := Lib.hid hmk; have HLE := Lib.hid hle; have HTE := Lib.hid hte; have HMO := Lib.hid hr.o3; have H31 := Lib.hid h31
  clear q1 q2 q3 q4 q5 q6 q7 q8 r3 ho hb0 hk0 hinv hmk hle hte hkp hn hp hr hr' h31
  go_enter Tryz.func60, Tryz.ntmps60
  go_wp2_with (rw [HO.out])
  refine HINV.out.mono ?_
  rintro e w1 ⟨hb1, hcase⟩
  have HB1 := Lib.hid (HB0.out.trans (hb1.mono hle1)); have HK1 := Lib.hid (HK0.out.below hb1 hlt1)
  clear hb1 g0 g1 g2 g3 g4 g5 g6 g7 HINV
  rcases hcase with ⟨hz, gi, rfl, hm⟩ | ⟨hz, rfl⟩
  · have hte := HTE.out
    rw [if_pos hz] at hte
    have HTE2 := Lib.hid hte
    have hnew := newN_any A3 n c3 B p.marks hm (HMK.out w1 HB1.out) (HLE.out w1 HB1.out) H31.out HMO.out
    have HNEW := Lib.hid hnew
    have g2 := HK1.out.cell 2
    simp only [List.getElem?_toArray, List.getElem?_cons_zero, List.getElem?_cons_succ] at g2
    clear hz hm hnew hte
    go_wp2_with fail
    refine HNEW.out.mono ?_
    rintro e w2 ⟨hb2, hcase⟩
    have HB2 := Lib.hid (HB1.out.trans (hb2.mono HB1.out.size))
    clear hb2 HNEW
    rcases hcase with ⟨hz, gn, rfl, hm⟩ | ⟨hz, rfl⟩
    · obtain rfl : r = 0 := HTE2.out.trans hz
      clear hz hm
      go_wp2
      go_ret3
      exact ⟨⟨_, _, rfl⟩, HB2.out⟩
    · obtain ⟨a, ha⟩ : ∃ a, notK p.feats.length p.marks = a := ⟨_, rfl⟩
      rw [ha] at hz ⊢
      obtain rfl : r = a := HTE2.out.trans ha
      have hzI : (r != (0 : Int)) = true := by rw [bne_iff_ne]; exact hz
      clear hz
      go_wp2
      go_ret3
      exact ⟨⟨_, _, rfl⟩, HB2.out⟩
  · obtain ⟨a, ha⟩ : ∃ a, invE p = a := ⟨_, rfl⟩
    have hte := HTE.out
    rw [ha] at hz hte ⊢
    rw [if_neg hz] at hte
    obtain rfl : r = a := hte
    have hzI : (r != (0 : Int)) = true := by rw [bne_iff_ne]; exact hz
    clear hz
    go_wp2
    go_ret3
    exact ⟨⟨_, _, rfl⟩, HB1.out⟩
set_option linter.unusedSimpArgs false in
set_option maxRecDepth 20000 in
set_option maxHeartbeats 4000000 in
theorem check_any (w : World) (B : Nat) (p : Pj) (cs : List Value) (hp : ProjC w B p cs) (hB : B ≤ w.heap.size) (hr : PjRd p) :
    Calls Tryz.prog 20 #[.agg cs.toArray] w fun e w' => e = .returned (.int .i64 (projE p)) ∧ Below w.heap.size w w' := by
  obtain ⟨v1, v2, v3, v4, v5, v6, v7, v8, rfl, q1, q2, q3, q4, q5, q6, q7, q8⟩ := hp
  have hp : ProjC w B p [v1, v2, v3, v4, v5, v6, v7, v8] := ⟨_, _, _, _, _, _, _, _, rfl, q1, q2, q3, q4, q5, q6, q7, q8⟩
  obtain ⟨A1, m1, c1, rfl, -⟩ := q1.form
  obtain ⟨A2, m2, c2, rfl, -⟩ := q2.form
  obtain ⟨A3, m3, c3, rfl, -⟩ := q3.form
  obtain ⟨A4, m4, c4, rfl, -⟩ := q4.form
  obtain ⟨A5, m5, c5, rfl, -⟩ := q5.form
  obtain ⟨A6, m6, c6, rfl, -⟩ := q6.form
  obtain ⟨A7, m7, c7, rfl, -⟩ := q7.form
  obtain ⟨A8, m8, c8, rfl, -⟩ := q8.form
  obtain ⟨o, ho⟩ : ∃ o, Obj.cells #[.slice A1 m1 c1, .slice A2 m2 c2, .slice A3 m3 c3, .slice A4 m4 c4, .slice A5 m5 c5, .slice A6 m6 c6, .slice A7 m7 c7, .slice A8 m8 c8] 33 = o := ⟨_, rfl⟩
  have hb0 := (Below.refl w.heap.size w).alloc (Nat.le_refl _) o
  have hk0 := Blk.new w 33 #[.slice A1 m1 c1, .slice A2 m2 c2, .slice A3 m3 c3, .slice A4 m4 c4, .slice A5 m5 c5, .slice A6 m6 c6, .slice A7 m7 c7, .slice A8 m8 c8]
  rw [ho] at hk0
  have hle1 : w.heap.size ≤ (w.alloc o).heap.size := by rw [World.size_alloc]; omega
  have hlt1 : w.heap.size < (w.alloc o).heap.size := by rw [World.size_alloc]; omega
  have hkp := fun (W : World) (hW : Below w.heap.size w W) => fun (q : Addr) (hq : q.block < B) => hW.cell (p := q) (Nat.lt_of_lt_of_le hq hB)
  have hle := fun (W : World) (hW : Below w.heap.size w W) => Nat.le_trans hB hW.size
  have htl := tools_any (w.alloc o) B p _ (ProjC.keep (hkp _ hb0) hp) (Nat.le_trans hB hle1) hr
  have hat := fun (W : World) (hW : Below w.heap.size w W) => attest_any _ _ _ _ _ B p.tree p.laws p.on p.protos p.entries W (SlC.plain (hkp W hW) q4 (fun _ _ h => h)) (SlC.plain (hkp W hW) q5 (fun _ _ h => h.keep (hkp W hW))) (SlC.plain (hkp W hW) q6 (fun _ _ h => OnC.keep (hkp W hW) h)) (SlC.plain (hkp W hW) q7 (fun _ _ h => FormC.keep (hkp W hW) h)) (SlC.plain (hkp W hW) q8 (fun _ _ h => EnC.keep (hkp W hW) h)) (hle W hW) hr.o4 hr.o5 hr.o6 (fun x hx => (hr.o8 x hx).1) hr.o7 (fun x hx => (hr.o8 x hx).2)
  obtain ⟨r, hre⟩ : ∃ r, projE p = r := ⟨_, rfl⟩
  rw [hre]
  unfold projE at hre
  have g0 := hk0.cell 0
  have g1 := hk0.cell 1
  have g2 := hk0.cell 2
  have g3 := hk0.cell 3
  have g4 := hk0.cell 4
  have g5 := hk0.cell 5
  have g6 := hk0.cell 6
  have g7 := hk0.cell 7
  simp only [List.getElem?_toArray, List.getElem?_cons_zero, List.getElem?_cons_succ] at g0 g1 g2 g3 g4 g5 g6 g7
  have HO := Lib.hid ho; have HB0 := Lib.hid hb0; have HK0 := Lib.hid hk0; have HTL := Lib.hid htl; have HAT := Lib.hid hat; have HRE := Lib.hid hre
  clear q1 q2 q3 q4 q5 q6 q7 q8 ho hb0 hk0 htl hat hre hkp hle hp hr
  go_enter Tryz.func20, Tryz.ntmps20
  go_wp2_with (rw [HO.out])
  refine HTL.out.mono ?_
  rintro e w1 ⟨⟨a, b, rfl⟩, hb1⟩
  have HB1 := Lib.hid (HB0.out.trans (hb1.mono hle1)); have HK1 := Lib.hid (HK0.out.below hb1 hlt1)
  clear hb1 g0 g1 g2 g3 g4 g5 g6 g7 HTL
  obtain ⟨x, hx⟩ : ∃ x, toolsE p = x := ⟨_, rfl⟩
  have hre := HRE.out
  rw [hx] at hre ⊢
  have HRE := Lib.hid hre
  clear hx hre
  by_cases hz : x = 0
  · have hzI : (x != (0 : Int)) = false := by rw [hz]; rfl
    have hre := HRE.out
    rw [if_pos hz] at hre
    have HAT2 := HAT.out w1 HB1.out
    rw [hre] at HAT2
    have HAT3 := Lib.hid HAT2
    have g3 := HK1.out.cell 3
    have g4 := HK1.out.cell 4
    have g5 := HK1.out.cell 5
    have g6 := HK1.out.cell 6
    have g7 := HK1.out.cell 7
    simp only [List.getElem?_toArray, List.getElem?_cons_zero, List.getElem?_cons_succ] at g3 g4 g5 g6 g7
    clear hz hre HAT2 HRE
    go_wp2_with fail
    refine HAT3.out.mono ?_
    rintro e w2 ⟨rfl, hb2⟩
    have HB2 := Lib.hid (HB1.out.trans (hb2.mono HB1.out.size))
    clear hb2
    go_wp2
    go_ret
    exact ⟨rfl, HB2.out⟩
  · have hzI : (x != (0 : Int)) = true := by rw [bne_iff_ne]; exact hz
    obtain rfl : r = x := by rw [← HRE.out, if_neg hz]
    clear hz
    go_wp2
    go_ret
    exact ⟨rfl, HB1.out⟩
end Go.Proofs.YtmepaeahchiglaaGreatDoor
namespace Go.Proofs.YtmepaeahchiglaaGreatDoor
open Go.RowKit Go.Lib

/-- The string of some bytes. -/
def strB (bs : List Nat) : ByteArray := ⟨(bs.map UInt8.ofNat).toArray⟩
theorem reads_conv {w : World} {B : Nat} {A : Option Addr} {n c : Nat} {bs : List Nat} (h : Reads w B 1 A n (bs.map bv)) (hb : ∀ b ∈ bs, b < 256) : (convert 36 9 (.slice A n c)).run Tryz.prog w = .ok (.string (strB bs)) w := by
  have hl : (bs.map UInt8.ofNat).length = n := by have := h.1; simpa using this
  rcases Nat.eq_zero_or_pos n with h0 | h0
  · subst h0
    obtain rfl : bs = [] := by
      have := h.1
      simpa using this
    rw [run_convert_bytes_string w 36 9 5 A 0 c Tryz.underlying36 Tryz.underlying5 Tryz.underlying9]
    cases A <;> rfl
  · obtain ⟨ad, rfl, _, hc⟩ := h.2 h0
    rw [← hl]
    refine run_convert_bytes_back (P := Tryz.prog) w 36 9 5 ad c (bs.map UInt8.ofNat) Tryz.underlying36 Tryz.underlying5 Tryz.underlying9 (fun j hj => ?_)
    have hj' : j < bs.length := by simpa using hj
    refine hc j _ ?_
    rw [List.getElem?_map, List.getElem?_eq_getElem hj']
    have := hb _ (List.getElem_mem hj')
    simp [bv, Nat.mod_eq_of_lt this]
theorem strB_inj {a b : List Nat} (ha : ∀ x ∈ a, x < 256) (hb : ∀ x ∈ b, x < 256) (h : strB a = strB b) : a = b := by
  have h' : a.map UInt8.ofNat = b.map UInt8.ofNat := by simpa [strB] using h
  have key : ∀ l : List Nat, (∀ x ∈ l, x < 256) → (l.map UInt8.ofNat).map UInt8.toNat = l := by
    intro l hl
    rw [List.map_map]
    conv => rhs; rw [← List.map_id l]
    exact List.map_congr_left fun x hx => by have := hl x hx; simp [Nat.mod_eq_of_lt this]
  rw [← key a ha, ← key b hb, h']
theorem strB_eq {a b : List Nat} (ha : ∀ x ∈ a, x < 256) (hb : ∀ x ∈ b, x < 256) : ((strB a).toList == (strB b).toList) = decide (a = b) := by
  rcases Decidable.em (a = b) with h | h
  · subst h; simp
  · rw [decide_eq_false h, beq_eq_false_iff_ne]
    intro h'
    exact h (strB_inj ha hb (ByteArray.ext (Array.toList_inj.mp (by rw [← ByteArray.toList_eq, ← ByteArray.toList_eq]; exact h'))))
set_option maxRecDepth 20000 in
theorem bytesEq_any (A A' : Option Addr) (n n' c c' B : Nat) (a b : List Nat) (w : World) (ha : Reads w B 1 A n (a.map bv)) (hb : Reads w B 1 A' n' (b.map bv)) (h1 : ∀ x ∈ a, x < 256) (h2 : ∀ x ∈ b, x < 256) :
    Calls Tryz.prog 12 #[.slice A n c, .slice A' n' c'] w fun e w' => e = .returned (.bool (decide (a = b))) ∧ w = w' := by
  have hc1 := reads_conv (c := c) ha h1
  have hc2 := reads_conv (c := c') hb h2
  have heq := strB_eq h1 h2
  generalize decide (a = b) = r at *
  generalize strB a = x at *
  generalize strB b = y at *
  clear ha hb h1 h2
  go_enter Tryz.func12, Tryz.ntmps12
  go_wp2
  go_ret
  exact ⟨rfl, rfl⟩
set_option maxRecDepth 20000 in
set_option maxHeartbeats 1000000 in
theorem refEqual_any (A A' : Option Addr) (n n' c c' B : Nat) (a b : List Snd) (w : World) (ha : Reads w B 2 A n (a.flatMap sndC)) (hb : Reads w B 2 A' n' (b.flatMap sndC)) (hB : B ≤ w.heap.size) (hn : n ≤ maxLen) :
    Calls Tryz.prog 35 #[.slice A n c, .slice A' n' c'] w fun e w' => e = .returned (.bool (decide (a = b))) ∧ w.heap = w'.heap ∧ Below w.heap.size w w' := by
  unfold maxLen at hn
  have hal := ha.len_of (fun _ => rfl) (by decide)
  have hbl := hb.len_of (fun _ => rfl) (by decide)
  obtain ⟨r, hr⟩ : ∃ r, decide (a = b) = r := ⟨_, rfl⟩
  rw [hr]
  have HA := Lib.hid ha; have HB := Lib.hid hb; have HAL := Lib.hid hal; have HBL := Lib.hid hbl; have HR := Lib.hid hr
  clear ha hb hal hbl hr
  by_cases hnn : n = n'
  · subst hnn
    go_enter Tryz.func35, Tryz.ntmps35
    go_wp2
    go_loopw [5] (fun i wr => ∃ k : Nat, k ≤ n ∧ i = .int .i64 k ∧ a.take k = b.take k ∧ w.heap = wr.heap ∧ Below w.heap.size w wr) (fun i _ => n - (RowKit.intOf i).toNat)
    case atStart => exact ⟨0, by omega, rfl, rfl, rfl, Below.refl _ _⟩
    case round =>
      obtain ⟨k, hk, rfl, heq, hh, hbw⟩ := hrel
      have HEQ := Lib.hid heq; have HBW := Lib.hid hbw; have HH := Lib.hid hh
      clear heq hbw hh
      by_cases hlt : k < n
      · have hka : k < a.length := by rw [HAL.out]; exact hlt
        have hkb : k < b.length := by rw [HBL.out]; exact hlt
        have hkI : (k : Int) < (n : Int) := by omega
        obtain ⟨ad, rfl, had, hc0, hc1⟩ := snd_cells (HA.out.below (HBW.out.mono hB)) hka
        obtain ⟨ad', rfl, had', hc0', hc1'⟩ := snd_cells (HB.out.below (HBW.out.mono hB)) hkb
        have hT : a.take (k + 1) = b.take (k + 1) ↔ a[k] = b[k] := by
          have e1 := List.take_succ_eq_append_getElem hka
          have e2 := List.take_succ_eq_append_getElem hkb
          rw [e1, e2, HEQ.out]
          exact ⟨fun h => by have := List.append_cancel_left h; simpa using this, fun h => by rw [h]⟩
        have hne : a[k] ≠ b[k] → r = false := fun h => by
          rw [← HR.out, decide_eq_false]
          rintro rfl
          exact h rfl
        generalize a[k] = s at *
        generalize b[k] = t at *
        have HT := Lib.hid hT; have HN := Lib.hid hne
        clear hT hne
        by_cases h1 : s.1 = t.1
        · by_cases h2 : s.2 = t.2
          · have e1 : ((s.1 : Int) == (t.1 : Int)) = true := by rw [h1]; simp
            have e2 : ((s.2 : Int) == (t.2 : Int)) = true := by rw [h2]; simp
            have hst : s = t := Prod.ext h1 h2
            have HST := Lib.hid hst
            clear h1 h2 hst
            go_wp2
            go_region
            go_wp2
            go_roundw
            case rel => exact ⟨k + 1, by omega, by go_num, HT.out.2 HST.out, HH.out, HBW.out.drew⟩
            case measure => simp [RowKit.intOf]; omega
          · have e1 : ((s.1 : Int) == (t.1 : Int)) = true := by rw [h1]; simp
            have e2 : ((s.2 : Int) == (t.2 : Int)) = false := by rw [beq_eq_false_iff_ne]; omega
            have hr0 := HN.out (fun h => h2 (by rw [h]))
            subst hr0
            clear h1 h2
            go_wp2
            go_region
            go_wp2
            go_ret
            exact ⟨rfl, HH.out, HBW.out.drew⟩
        · have e1 : ((s.1 : Int) == (t.1 : Int)) = false := by rw [beq_eq_false_iff_ne]; omega
          have hr0 := HN.out (fun h => h1 (by rw [h]))
          subst hr0
          clear h1
          go_wp2
          go_region
          go_wp2
          go_ret
          exact ⟨rfl, HH.out, HBW.out.drew⟩
      · obtain rfl : k = n := by omega
        have hr1 : r = true := by
          rw [← HR.out, decide_eq_true_eq]
          have h := HEQ.out
          rw [List.take_of_length_le (by rw [HAL.out]; exact Nat.le_refl _), List.take_of_length_le (by rw [HBL.out]; exact Nat.le_refl _)] at h
          exact h
        subst hr1
        go_wp2
        go_ret
        exact ⟨rfl, HH.out, HBW.out⟩
  · have hr0 : r = false := by
      rw [← HR.out, decide_eq_false]
      rintro rfl
      exact hnn (HAL.out.symm.trans HBL.out)
    subst hr0
    have hnI : ((n : Int) != (n' : Int)) = true := by rw [bne_iff_ne]; omega
    go_enter Tryz.func35, Tryz.ntmps35
    go_wp2
    go_ret
    exact ⟨rfl, rfl, Below.refl _ _⟩
end Go.Proofs.YtmepaeahchiglaaGreatDoor
namespace Go.Proofs.YtmepaeahchiglaaGreatDoor

def manyS (get : Nat → Rdr (Pt × Nat)) : Nat → Nat → Rdr (List Pt × Nat)
  | 0, left => fun b => some (([], left), b)
  | n + 1, left => thenR (get left) fun x => thenR (manyS get n x.2) fun l r => some ((x.1 :: l.1, l.2), r)
/-- A node, and what is below it. -/
def nodeR (get : Nat → Rdr (Pt × Nat)) (left : Nat) : Rdr (Pt × Nat) := thenR readN fun k =>
  if k = 1 then thenR sndR fun s => thenR flagR fun neg r => some ((.mk 1 s neg 0 0 [], left), r)
  else if k = 3 ∨ k = 4 then thenR countR fun n => thenR (manyS get n left) fun x r => some ((.mk k (0, 0) false 0 0 x.1, x.2), r)
  else if k = 5 then thenR readN fun lo => thenR readN fun hi => thenR (manyS get 1 left) fun x r => some ((.mk 5 (0, 0) false lo ((hi : Int) - 1) x.1, x.2), r)
  else fun r => some ((.mk k (0, 0) false 0 0 [], left), r)
/-- A pattern of at most so many nodes, and how many more there may be. -/
def patR : Nat → Nat → Rdr (Pt × Nat)
  | 0, _ => fun _ => none
  | f + 1, left => if left = 0 then fun _ => none else nodeR (patR f) (left - 1)
theorem patR_zero (f : Nat) (b : List Nat) : patR f 0 b = none := by
  cases f with
  | zero => rfl
  | succ f => show (if (0 : Nat) = 0 then _ else _ : Rdr (Pt × Nat)) b = none; rw [if_pos rfl]
theorem patR_succ (f left : Nat) (b : List Nat) : patR (f + 1) (left + 1) b = nodeR (patR f) left b := by
  show (if left + 1 = 0 then _ else _ : Rdr (Pt × Nat)) b = _
  rw [if_neg (by omega)]; rfl
/-- What was read is so large as the count went down. -/
def Down (get : Nat → Rdr (Pt × Nat)) : Prop := ∀ left b p left' r, get left b = some ((p, left'), r) → ptSize p + left' = left
theorem manyS_down {get : Nat → Rdr (Pt × Nat)} (h : Down get) : ∀ (n left : Nat) (b : List Nat) (l : List Pt) (left' : Nat) (r : List Nat), manyS get n left b = some ((l, left'), r) → l.length = n ∧ ptSizes l + left' = left
  | 0, left, b, l, left', r, e => by
    have e2 : ([] : List Pt) = l ∧ left = left' := by
      injection e with e
      injection e with e _
      injection e with e1 e2
      exact ⟨e1, e2⟩
    obtain ⟨rfl, rfl⟩ := e2
    exact ⟨rfl, by rw [ptSizes_nil, Nat.zero_add]⟩
  | n + 1, left, b, l, left', r, e => by
    obtain ⟨⟨p, l1⟩, s, h1, e⟩ := thenR_out (show thenR (get left) (fun x => thenR (manyS get n x.2) fun l r => some ((x.1 :: l.1, l.2), r)) b = some ((l, left'), r) from e)
    obtain ⟨⟨l2, l3⟩, t, h2, e⟩ := thenR_out e
    simp only [Option.some.injEq, Prod.mk.injEq] at e
    obtain ⟨⟨rfl, rfl⟩, rfl⟩ := e
    have := h _ _ _ _ _ h1
    obtain ⟨i1, i2⟩ := manyS_down h n l1 s l2 l3 t h2
    refine ⟨by rw [List.length_cons, i1], ?_⟩
    rw [ptSizes_cons]; omega
theorem nodeR_down {get : Nat → Rdr (Pt × Nat)} (h : Down get) {left : Nat} {b : List Nat} {p : Pt} {left' : Nat} {r : List Nat} (e : nodeR get left b = some ((p, left'), r)) : ptSize p + left' = left + 1 := by
  unfold nodeR at e
  obtain ⟨k, s, h1, e⟩ := thenR_out e
  split at e
  · obtain ⟨sd, t, h2, e⟩ := thenR_out e
    obtain ⟨neg, u, h3, e⟩ := thenR_out e
    simp only [Option.some.injEq, Prod.mk.injEq] at e
    obtain ⟨⟨rfl, rfl⟩, rfl⟩ := e
    rw [ptSize_mk, ptSizes_nil]; omega
  · split at e
    · obtain ⟨n, t, h2, e⟩ := thenR_out e
      obtain ⟨⟨l2, l3⟩, u, h3, e⟩ := thenR_out e
      simp only [Option.some.injEq, Prod.mk.injEq] at e
      obtain ⟨⟨rfl, rfl⟩, rfl⟩ := e
      have := (manyS_down h _ _ _ _ _ _ h3).2
      rw [ptSize_mk]; omega
    · split at e
      · obtain ⟨lo, t, h2, e⟩ := thenR_out e
        obtain ⟨hi, u, h3, e⟩ := thenR_out e
        obtain ⟨⟨l2, l3⟩, v, h4, e⟩ := thenR_out e
        simp only [Option.some.injEq, Prod.mk.injEq] at e
        obtain ⟨⟨rfl, rfl⟩, rfl⟩ := e
        have := (manyS_down h _ _ _ _ _ _ h4).2
        rw [ptSize_mk]; omega
      · simp only [Option.some.injEq, Prod.mk.injEq] at e
        obtain ⟨⟨rfl, rfl⟩, rfl⟩ := e
        rw [ptSize_mk, ptSizes_nil]; omega
theorem patR_down : ∀ f, Down (patR f)
  | 0 => fun _ _ _ _ _ e => by cases e
  | f + 1 => fun left b p left' r e => by
    cases left with
    | zero => rw [patR_zero] at e; cases e
    | succ left => rw [patR_succ] at e; exact nodeR_down (patR_down f) e
theorem manyS_one {get : Nat → Rdr (Pt × Nat)} {left : Nat} {b : List Nat} : manyS get 1 left b = thenR (get left) (fun x r => some (([x.1], x.2), r)) b := by
  show thenR (get left) (fun x => thenR (manyS get 0 x.2) fun l r => some ((x.1 :: l.1, l.2), r)) b = _
  cases h : get left b with
  | none => rw [thenR_none h, thenR_none h]
  | some q => obtain ⟨x, r⟩ := q; rw [thenR_some h, thenR_some h]; rfl
/-- What comes ahead of the rest of a list. -/
def preS (xs : List Pt) (o : Option ((List Pt × Nat) × List Nat)) : Option ((List Pt × Nat) × List Nat) := o.map fun p => ((xs ++ p.1.1, p.1.2), p.2)
theorem preS_nil (o : Option ((List Pt × Nat) × List Nat)) : preS [] o = o := by cases o <;> rfl
theorem preS_none {xs : List Pt} {get : Nat → Rdr (Pt × Nat)} {left : Nat} {b : List Nat} (n : Nat) (h : get left b = none) : preS xs (manyS get (n + 1) left b) = none := by
  show preS xs (thenR (get left) _ b) = none
  rw [thenR_none h]; rfl
theorem preS_some {xs : List Pt} {get : Nat → Rdr (Pt × Nat)} {left left' : Nat} {b r : List Nat} {p : Pt} (n : Nat) (h : get left b = some ((p, left'), r)) : preS xs (manyS get (n + 1) left b) = preS (xs ++ [p]) (manyS get n left' r) := by
  show preS xs (thenR (get left) (fun x => thenR (manyS get n x.2) fun l r => some ((x.1 :: l.1, l.2), r)) b) = _
  rw [thenR_some h]
  cases h2 : manyS get n left' r with
  | none => rw [thenR_none h2]; rfl
  | some q => obtain ⟨l, t⟩ := q; rw [thenR_some h2]; simp [preS]
/-! Laws. -/
def outR : Rdr Ot := thenR readN fun a => thenR readN fun c => thenR sndR fun s => thenR readN fun t => thenR readN fun o r => some (⟨(a : Int) - 1, c, s, t, o⟩, r)

def textR : Rdr ByteArray := thenR countR fun n r => some (strB (r.take n), r.drop n)
def sideR : Rdr Pt := thenR (patR 41 40) fun x r => some (x.1, r)
def lawR : Rdr Lw := thenR textR fun nm => thenR sideR fun a => thenR sideR fun b => thenR wordR fun ifs => thenR (someR outR) fun outs => thenR readN fun m r => some (⟨nm, a, b, ifs, outs, m⟩, r)
end Go.Proofs.YtmepaeahchiglaaGreatDoor
