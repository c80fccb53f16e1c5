/-
  layer 39: the statements' own 'works'. Conditions: the cell of the library's MaxLen holds some int.
-/
import Derived.Test.YtcdpadggjkobjaaGreatDoorOrd
namespace Go.Proofs.YtcdpadggjkobjaaGreatDoor
open Go.RowKit

def exL : List ByteArray := [⟨#[97, 32, 195, 161]⟩, ⟨#[99]⟩, ⟨#[99, 104]⟩, ⟨#[104]⟩, ⟨#[116]⟩]
def exG : List (List ByteArray) := [[⟨#[97]⟩, ⟨#[195, 161]⟩], [⟨#[99]⟩], [⟨#[99, 104]⟩], [⟨#[104]⟩], [⟨#[116]⟩]]
def chat : ByteArray := ⟨#[99, 104, 97, 116]⟩
def cat : ByteArray := ⟨#[99, 97, 116]⟩
def catA : ByteArray := ⟨#[99, 195, 161, 116]⟩
theorem exG_eq : groupsB exL = exG := by decide +kernel
theorem exErr : newErr exL = 0 := by decide +kernel
theorem exChat : readRes exG chat = (0, [(⟨#[99, 104]⟩, 2), (⟨#[97]⟩, 0), (⟨#[116]⟩, 4)]) := by decide +kernel
theorem exCat : readRes exG cat = (0, [(⟨#[99]⟩, 1), (⟨#[97]⟩, 0), (⟨#[116]⟩, 4)]) := by decide +kernel
theorem exCatA : readRes exG catA = (0, [(⟨#[99]⟩, 1), (⟨#[195, 161]⟩, 0), (⟨#[116]⟩, 4)]) := by decide +kernel
theorem exO1 : orderRes (readRes exG chat) (readRes exG cat) chat cat = (1, 0) := by decide +kernel
theorem exO2 : orderRes (readRes exG catA) (readRes exG cat) catA cat = (1, 0) := by decide +kernel
theorem exS : sameRes (readRes exG catA) (readRes exG cat) = true := by decide +kernel
def WorksPost (w : World) (e : Ending) (w' : World) : Prop := e = .returned (.bool true) ∧ Below w.heap.size w w'
theorem SplitPost.form {w w' : World} {r : Res} {e : Ending} (h : SplitPost w r e w') :
    ∃ A n c, e = .returned (.tuple #[.slice A n c, .int .i64 r.1]) ∧ ReadS w' w'.heap.size A n (letS r.2) ∧ n ≤ maxLen ∧ Below w.heap.size w w' ∧ n = r.2.length := by
  obtain ⟨v, rfl, ho, hb⟩ := h
  obtain ⟨A, c, rfl, h1, h2⟩ := ownsRow_form ho
  exact ⟨A, _, c, rfl, Reads.of_own ho, by omega, hb, rfl⟩
theorem readS_new (w : World) (cs : List ByteArray) : ReadS (w.alloc (.cells (cs.map Value.string).toArray 9)) (w.heap.size + 1) (some ⟨w.heap.size, 0, none⟩) cs.length cs := by
  have := reads_new w 9 (cs.map Value.string)
  rwa [List.length_map] at this
set_option maxRecDepth 20000 in
set_option maxHeartbeats 2000000 in
theorem works_any (w : World) (hm : MaxOk w) : Calls Tryz.prog 5 #[] w (WorksPost w) := by
  have hN := fun W (hb : Below w.heap.size w W) A c (hr : ReadS W W.heap.size A 5 exL) => new_any A 5 c exL W (hm.below hb) hr (by omega) (by decide +kernel)
  have HN := Lib.hid hN; clear hN hm
  go_enter Tryz.func5, Tryz.ntmps5
  go_wp2_with fail
  refine (HN.out _ (by exact (Below.refl _ _).alloc (Nat.le_refl _) _) _ _ (by exact Reads.more (readS_new w exL) (by simp))).mono ?_
  rintro e w1 ⟨_, hok, hb1⟩
  obtain ⟨g, rfl, hA, hG⟩ := hok exErr
  rw [exG_eq] at hA hG
  have hA1 : AlphO w1 (some ⟨g, 0, none⟩) (some exG) := ⟨g, rfl, hA, hG⟩
  have hB1 : Below w.heap.size w w1 := ((Below.refl _ w).alloc (Nat.le_refl _) _).trans (hb1.mono (by simp))
  have HA1 := Lib.hid hA1
  clear hok hA hG hb1 HN hA1
  go_wp2_with fail
  have s1 : Calls Tryz.prog 20 #[.pointer (some ⟨g, 0, none⟩), .string ⟨#[99, 104, 97, 116]⟩] w1 (SplitPost w1 (0, [(⟨#[99, 104]⟩, 2), (⟨#[97]⟩, 0), (⟨#[116]⟩, 4)])) := exChat ▸ splitO_any _ _ chat _ HA1.out
  refine s1.mono ?_
  rintro e w2 hs
  obtain ⟨A, n, c, rfl, hr, hn, hb2, rfl⟩ := hs.form
  clear s1 hs
  go_wp2_with fail
  have o1 : Calls Tryz.prog 10 #[.pointer (some ⟨g, 0, none⟩), .string ⟨#[99, 104, 97, 116]⟩, .string ⟨#[99, 97, 116]⟩] w2 (OrderPost w2 (1, 0)) := exO1 ▸ order_any _ _ chat cat _ (HA1.out.below hb2)
  refine o1.mono ?_
  rintro e w3 ⟨rfl, hb3⟩
  clear o1
  have o2 : Calls Tryz.prog 10 #[.pointer (some ⟨g, 0, none⟩), .string ⟨#[99, 195, 161, 116]⟩, .string ⟨#[99, 97, 116]⟩] w3 (OrderPost w3 (1, 0)) := exO2 ▸ order_any _ _ catA cat _ ((HA1.out.below hb2).below hb3)
  go_wp2_with fail
  refine o2.mono ?_
  rintro e w4 ⟨rfl, hb4⟩
  clear o2
  have hr4 := (hr.below hb3).below (hb4.mono hb3.size)
  have hB4 := ((hB1.trans (hb2.mono hB1.size)).trans (hb3.mono (by have := hB1.size; have := hb2.size; omega))).trans (hb4.mono (by have := hB1.size; have := hb2.size; have := hb3.size; omega))
  have ha4 := ((HA1.out.below hb2).below hb3).below hb4
  have HA4 := Lib.hid ha4
  have h24 : w2.heap.size ≤ w4.heap.size := by have := hb3.size; have := hb4.size; omega
  clear hr hb2 hb3 hb4 hB1 HA1 ha4
  go_wp2_with fail
  refine (equalS_any A _ 3 3 c _ [⟨#[99, 104]⟩, ⟨#[97]⟩, ⟨#[116]⟩] [⟨#[99, 104]⟩, ⟨#[97]⟩, ⟨#[116]⟩] _ _ _ (by exact hr4.alloc h24 _) (by exact readS_new w4 _) hn).mono ?_
  rintro e w5 ⟨rfl, q, rfl⟩
  have sm : ∀ W, AlphO W (some ⟨g, 0, none⟩) (some exG) → Calls Tryz.prog 8 #[.pointer (some ⟨g, 0, none⟩), .string ⟨#[99, 195, 161, 116]⟩, .string ⟨#[99, 97, 116]⟩] W (SamePost W true) := fun W h => exS ▸ same_any _ _ catA cat _ h
  have SM := Lib.hid sm; clear sm
  have hBq : ∀ o, Below w4.heap.size w4 ((w4.alloc o).drewN q) := fun o => below_drewN ((Below.refl _ w4).alloc (Nat.le_refl _) o) q
  have HBQ := Lib.hid hBq; clear hBq
  go_wp2_with fail
  refine (SM.out _ (HA4.out.below (HBQ.out _))).mono ?_
  rintro e w6 ⟨rfl, hb6⟩
  go_wp2
  go_ret
  exact ⟨rfl, (hB4.trans ((HBQ.out _).mono hB4.size)).trans (hb6.mono (by have := (HBQ.out (.cells #[.string ⟨#[99, 104]⟩, .string ⟨#[97]⟩, .string ⟨#[116]⟩] 9)).size; have := hB4.size; omega))⟩
end Go.Proofs.YtcdpadggjkobjaaGreatDoor
