/-
  layer 39: two of the program. Conditions: an alphabet of New, or none.
-/
import Derived.Test.YtcdpadggjkobjaaGreatDoorNil
import Derived.Test.YtcdpadggjkobjaaGreatDoorBefore
import Derived.Test.YtcdpadggjkobjaaGreatDoorKeys
namespace Go.Proofs.YtcdpadggjkobjaaGreatDoor
open Go.RowKit

abbrev Res := Int × List (ByteArray × Int)
def errTwo (r1 r2 : Res) : Int := if r1.1 = 0 then r2.1 else r1.1
def TwoPost (w : World) (r1 r2 : Res) (s t : ByteArray) (e : Ending) (w' : World) : Prop :=
  ∃ (A B : Option Addr) (n m c d : Nat) (xs ys : List Int) (s' t' : ByteArray), e = .returned (.tuple #[.agg #[.slice A n c, .string s'], .agg #[.slice B m d, .string t'], .int .i64 (errTwo r1 r2)]) ∧
    ReadI w' w'.heap.size A n xs ∧ ReadI w' w'.heap.size B m ys ∧ n ≤ maxLen ∧ m ≤ maxLen ∧ Below w.heap.size w w' ∧ (errTwo r1 r2 = 0 → xs = keyS r1.2 ∧ ys = keyS r2.2 ∧ s' = s ∧ t' = t)
theorem KeyPost.form {w w' : World} {r : Res} {e : Ending} (h : KeyPost w r e w') :
    ∃ A n c, e = .returned (.tuple #[.slice A n c, .int .i64 r.1]) ∧ ReadI w' w'.heap.size A n (keyS r.2) ∧ n ≤ maxLen ∧ Below w.heap.size w w' := by
  obtain ⟨v, rfl, ho, hb⟩ := h
  obtain ⟨A, c, rfl, h1, h2⟩ := ownsRow_form ho
  exact ⟨A, _, c, rfl, Reads.of_own ho, by omega, hb⟩

theorem _root_.Go.World.ownsRow.keepSet {w : World} {base : Nat} {e : TypeId} {n : Nat} {v : Value} {xs : List Value} (h : w.ownsRow base e 1 v n xs) {a : Addr} (ha : a.block < base) (u : Value) : (w.setCell a u).ownsRow base e 1 v n xs := ownsRow_setCell_below h ha u
theorem KeyPost.formO {w w' : World} {r : Res} {e : Ending} (h : KeyPost w r e w') :
    ∃ A n c, e = .returned (.tuple #[.slice A n c, .int .i64 r.1]) ∧ w'.ownsRow w.heap.size 3 1 (.slice A n c) n (ints (keyS r.2)) ∧ n ≤ maxLen ∧ Below w.heap.size w w' := by
  obtain ⟨v, rfl, ho, hb⟩ := h
  obtain ⟨A, c, rfl, h1, h2⟩ := ownsRow_form ho
  exact ⟨A, _, c, rfl, ho, by omega, hb⟩

set_option maxRecDepth 20000 in
set_option maxHeartbeats 2000000 in
theorem two_any (p : Option Addr) (og : Option (List (List ByteArray))) (s t : ByteArray) (w : World) (hA : AlphO w p og) :
    Calls Tryz.prog 24 #[.pointer p, .string s, .string t] w (TwoPost w (readResO og s) (readResO og t) s t) := by
  have k1 := fun W (hb : Below w.heap.size w W) => (keyO_any p og s W (hA.below hb)).mono fun _ _ h => h.formO
  have k2 := fun W (hb : Below w.heap.size w W) => (keyO_any p og t W (hA.below hb)).mono fun _ _ h => h.formO
  generalize readResO og s = r1 at k1
  generalize readResO og t = r2 at k2
  have K1 := Lib.hid k1; have K2 := Lib.hid k2; clear k1 k2 hA
  obtain ⟨W0, hW0⟩ : ∃ W0, (w.alloc (.cells #[.slice none 0 0, .string ⟨#[]⟩] 60)).alloc (.cells #[.slice none 0 0, .string ⟨#[]⟩] 60) = W0 := ⟨_, rfl⟩
  have hbW : Below w.heap.size w W0 := by rw [← hW0]; exact ((Below.refl _ w).alloc (Nat.le_refl _) _).alloc (by simp) _
  have hsz : W0.heap.size = w.heap.size + 2 := by rw [← hW0]; simp
  have b0 : Blk W0 w.heap.size 60 #[.slice none 0 0, .string ⟨#[]⟩] := by rw [← hW0]; exact (Blk.new w _ _).alloc _
  have b1 : Blk W0 (w.heap.size + 1) 60 #[.slice none 0 0, .string ⟨#[]⟩] := by
    rw [← hW0]
    have := Blk.new (w.alloc (.cells #[.slice none 0 0, .string ⟨#[]⟩] 60)) 60 #[.slice none 0 0, .string ⟨#[]⟩]
    rwa [World.size_alloc] at this
  have HW0 := Lib.hid hW0; have HSZ := Lib.hid hsz; clear hW0 hsz
  by_cases h1 : r1.1 = 0
  · have H1 := Lib.hid h1; clear h1
    by_cases h2 : r2.1 = 0
    · have H2 := Lib.hid h2; clear h2
      go_enter Tryz.func24, Tryz.ntmps24
      go_wp2_with fail
      rw [HW0.out]
      refine (K1.out _ hbW).mono ?_
      rintro e w1 ⟨A, n, c, rfl, ho, hn, hb⟩
      rw [H1.out]
      go_wp2_with fail
      refine (K2.out _ (hbW.trans (hb.mono hbW.size))).mono ?_
      rintro e w2 ⟨B, m, d, rfl, ho2, hm, hb2⟩
      have hb3 := hb.trans (hb2.mono hb.size)
      have c00 := (b0.below hb3 (by rw [HSZ.out]; omega)).cell 0
      have c01 := (b0.below hb3 (by rw [HSZ.out]; omega)).cell 1
      have c10 := (b1.below hb3 (by rw [HSZ.out]; omega)).cell 0
      have c11 := (b1.below hb3 (by rw [HSZ.out]; omega)).cell 1
      have f00 := (b0.below hb3 (by rw [HSZ.out]; omega)).frozen 0
      have f01 := (b0.below hb3 (by rw [HSZ.out]; omega)).frozen 1
      have f10 := (b1.below hb3 (by rw [HSZ.out]; omega)).frozen 0
      have f11 := (b1.below hb3 (by rw [HSZ.out]; omega)).frozen 1
      simp only [List.getElem?_toArray, List.getElem?_cons_zero, List.getElem?_cons_succ] at c00 c01 c10 c11
      have hsz1 : w.heap.size + 2 ≤ w1.heap.size := by have := hb.size; rw [HSZ.out] at this; exact this
      rw [H2.out]
      go_wp2
      have hB := hbW.trans (hb3.mono hbW.size)
      have o1 := ((((own_below ho hb2).keepSet (a := ⟨w.heap.size, 0, none⟩) (by rw [HSZ.out]; simp) (.slice A n c)).keepSet (a := ⟨w.heap.size, 1, none⟩) (by rw [HSZ.out]; simp) (.string s)).keepSet (a := ⟨w.heap.size + 1, 0, none⟩) (by rw [HSZ.out]; simp) (.slice B m d)).keepSet (a := ⟨w.heap.size + 1, 1, none⟩) (by rw [HSZ.out]; simp) (.string t)
      have o2 := (((ho2.keepSet (a := ⟨w.heap.size, 0, none⟩) (by simp; omega) (.slice A n c)).keepSet (a := ⟨w.heap.size, 1, none⟩) (by simp; omega) (.string s)).keepSet (a := ⟨w.heap.size + 1, 0, none⟩) (by simp; omega) (.slice B m d)).keepSet (a := ⟨w.heap.size + 1, 1, none⟩) (by simp; omega) (.string t)
      refine bodyPost_ret (v := .tuple #[.agg #[.slice A n c, .string s], .agg #[.slice B m d, .string t], .int .i64 0]) (by simp [results, Tryz.results24, go_sem, c00, c01, c10, c11]) rfl ?_
      have hE : errTwo r1 r2 = 0 := by unfold errTwo; rw [if_pos H1.out]; exact H2.out
      refine ⟨A, B, n, m, c, d, _, _, s, t, by rw [hE], Reads.of_own o1, Reads.of_own o2, hn, hm, ?_, fun _ => ⟨rfl, rfl, rfl, rfl⟩⟩
      exact (((hB.setCell (by simp) _).setCell (by simp) _).setCell (by simp) _).setCell (by simp) _
    · have h2b : (r2.1 != 0) = true := by rw [bne_iff_ne]; exact h2
      have H2 := Lib.hid h2; clear h2
      go_enter Tryz.func24, Tryz.ntmps24
      go_wp2_with fail
      rw [HW0.out]
      refine (K1.out _ hbW).mono ?_
      rintro e w1 ⟨A, n, c, rfl, ho, hn, hb⟩
      rw [H1.out]
      go_wp2_with fail
      refine (K2.out _ (hbW.trans (hb.mono hbW.size))).mono ?_
      rintro e w2 ⟨B, m, d, rfl, ho2, hm, hb2⟩
      have hb3 := hb.trans (hb2.mono hb.size)
      have c00 := (b0.below hb3 (by rw [HSZ.out]; omega)).cell 0
      have c01 := (b0.below hb3 (by rw [HSZ.out]; omega)).cell 1
      have c10 := (b1.below hb3 (by rw [HSZ.out]; omega)).cell 0
      have c11 := (b1.below hb3 (by rw [HSZ.out]; omega)).cell 1
      have f00 := (b0.below hb3 (by rw [HSZ.out]; omega)).frozen 0
      have f01 := (b0.below hb3 (by rw [HSZ.out]; omega)).frozen 1
      have f10 := (b1.below hb3 (by rw [HSZ.out]; omega)).frozen 0
      have f11 := (b1.below hb3 (by rw [HSZ.out]; omega)).frozen 1
      simp only [List.getElem?_toArray, List.getElem?_cons_zero, List.getElem?_cons_succ] at c00 c01 c10 c11
      have hsz1 : w.heap.size + 2 ≤ w1.heap.size := by have := hb.size; rw [HSZ.out] at this; exact this
      go_wp2
      refine bodyPost_ret (v := .tuple #[.agg #[.slice none 0 0, .string ⟨#[]⟩], .agg #[.slice none 0 0, .string ⟨#[]⟩], .int .i64 r2.1]) (by simp [results, Tryz.results24, go_sem, c00, c01, c10, c11]) rfl ?_
      have hE : errTwo r1 r2 = r2.1 := by unfold errTwo; rw [if_pos H1.out]
      refine ⟨none, none, 0, 0, 0, 0, [], [], ⟨#[]⟩, ⟨#[]⟩, by rw [hE], Reads.none_, Reads.none_, by simp, by simp, ?_, fun h => absurd h (by rw [hE]; exact H2.out)⟩
      have hB := hbW.trans (hb3.mono hbW.size)
      exact (((hB.setCell (by simp) _).setCell (by simp) _).setCell (by simp) _).setCell (by simp) _
  · have h1b : (r1.1 != 0) = true := by rw [bne_iff_ne]; exact h1
    have H1 := Lib.hid h1; clear h1
    go_enter Tryz.func24, Tryz.ntmps24
    go_wp2_with fail
    rw [HW0.out]
    refine (K1.out _ hbW).mono ?_
    rintro e w1 ⟨A, n, c, rfl, ho, hn, hb⟩
    have c00 := (b0.below hb (by rw [HSZ.out]; omega)).cell 0
    have c01 := (b0.below hb (by rw [HSZ.out]; omega)).cell 1
    have c10 := (b1.below hb (by rw [HSZ.out]; omega)).cell 0
    have c11 := (b1.below hb (by rw [HSZ.out]; omega)).cell 1
    have f00 := (b0.below hb (by rw [HSZ.out]; omega)).frozen 0
    have f01 := (b0.below hb (by rw [HSZ.out]; omega)).frozen 1
    have f10 := (b1.below hb (by rw [HSZ.out]; omega)).frozen 0
    have f11 := (b1.below hb (by rw [HSZ.out]; omega)).frozen 1
    simp only [List.getElem?_toArray, List.getElem?_cons_zero, List.getElem?_cons_succ] at c00 c01 c10 c11
    go_wp2
    refine bodyPost_ret (v := .tuple #[.agg #[.slice none 0 0, .string ⟨#[]⟩], .agg #[.slice none 0 0, .string ⟨#[]⟩], .int .i64 r1.1]) (by simp [results, Tryz.results24, go_sem, c00, c01, c10, c11]) rfl ?_
    have hE : errTwo r1 r2 = r1.1 := by unfold errTwo; rw [if_neg H1.out]
    refine ⟨none, none, 0, 0, 0, 0, [], [], ⟨#[]⟩, ⟨#[]⟩, by rw [hE], Reads.none_, Reads.none_, by simp, by simp, ?_, fun h => absurd h (by rw [hE]; exact H1.out)⟩
    have hB := hbW.trans (hb.mono hbW.size)
    exact (((hB.setCell (by simp) _).setCell (by simp) _).setCell (by simp) _).setCell (by simp) _
end Go.Proofs.YtcdpadggjkobjaaGreatDoor
