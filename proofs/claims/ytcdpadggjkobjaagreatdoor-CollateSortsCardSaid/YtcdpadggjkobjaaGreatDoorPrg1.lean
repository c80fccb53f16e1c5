/-
  The program's callees in New of layer 39: strings.Split at a space, strings.Count of spaces, strings.ContainsFunc of low runes. Conditions: a text of at most 16,384 bytes; the cell of the library's MaxLen holds some int.
-/
import Derived.Test.YtcdpadggjkobjaaGreatDoorSpec3
import Derived.Test.YtcdpadggjkobjaaGreatDoorShelf
import Derived.Test.YtcdpadggjkobjaaGreatDoorMapSI
import Derived.Shelf.Abstract
namespace Go.Proofs.YtcdpadggjkobjaaGreatDoor
open Go.RowKit Go.Shelf

/-- The library's variable MaxLen holds some int. -/
def MaxOk (w : World) : Prop := ∃ m : Int, w.cell? ⟨0, 0, none⟩ = some (.int .i64 m)
theorem MaxOk.below {w w' : World} (h : MaxOk w) (hb : Below w.heap.size w w') : MaxOk w' := by
  obtain ⟨m, hm⟩ := h
  exact ⟨m, (hb.cell (p := ⟨0, 0, none⟩) (lt_of_cell hm)).trans hm⟩
theorem count_any (s : ByteArray) (w : World) :
    Calls Tryz.prog 35 #[.string s, .string ⟨#[32]⟩] w fun e w' => e = .returned (.int .i64 ((bl s).count 32 : Nat)) ∧ w = w' :=
  (Tryz.strings_Count_one s 32 w).mono fun _ _ ⟨h1, h2⟩ => ⟨h1, h2.symm⟩
theorem split_any (s : ByteArray) (w : World) (hm : MaxOk w) (hs : s.size ≤ 16384) :
    Calls Tryz.prog 36 #[.string s, .string ⟨#[32]⟩] w (GivesS w (piecesB s)) := by
  obtain ⟨m, hm⟩ := hm
  refine (Tryz.strings_Split s ⟨#[32]⟩ m w (by omega) hm (by decide)).mono ?_
  rintro e w' ⟨rfl, rfl⟩
  have h1 : Lib.splitB ⟨#[32]⟩ 0 (Lib.countB s ⟨#[32]⟩) s = piecesB s := splitB_space s
  have h2 : Lib.countB s ⟨#[32]⟩ + 1 = (piecesB s).length := countB_space s
  have h3 := piecesB_le s
  rw [h1, h2]
  refine ⟨_, rfl, ?_, (Below.refl _ _).alloc (Nat.le_refl _) _⟩
  exact ⟨by simp, .inr ⟨w.heap.size, (piecesB s).length, ((piecesB s).map Value.string).toArray, rfl, Nat.le_refl _, heap_alloc_new w _, Nat.le_refl _, by unfold maxLen; omega, by simp, by rw [Nat.mul_one, List.toList_toArray]; exact List.take_of_length_le (by simp)⟩⟩
theorem low_any (x : Nat) (W : World) : Calls Tryz.prog 38 #[.int .i32 x] W fun e w' => e = .returned (.bool (lowR x)) ∧ ∃ q, w' = W.drewN q := by
  go_enter Tryz.func38, Tryz.ntmps38
  go_wp2
  go_ret
  refine ⟨?_, 0, rfl⟩
  have : lowR x = decide ((x : Int) ≤ 32) := by unfold lowR; rw [decide_eq_decide]; omega
  rw [this]; rfl
theorem contains_any (s : ByteArray) (w : World) :
    Calls Tryz.prog 37 #[.string s, .func (.func 38) #[] #[]] w fun e w' => e = .returned (.bool (!((bl s).all fun c => decide (32 < c.toNat)))) ∧ Below w.heap.size w w' := by
  have h := Tryz.strings_ContainsFunc 38 #[] (enters_of Tryz.func38 (by kernel_rfl) rfl) lowR s w (fun W x _ => low_any x W)
  rw [low_iff] at h
  exact h
end Go.Proofs.YtcdpadggjkobjaaGreatDoor
