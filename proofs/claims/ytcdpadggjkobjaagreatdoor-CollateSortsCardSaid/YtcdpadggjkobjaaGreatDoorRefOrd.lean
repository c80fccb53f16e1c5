/-
  layer 39: Order and Same of the reference. Conditions: an alphabet of New, or none; texts of at most maxLen bytes.
-/
import Derived.Test.YtcdpadggjkobjaaGreatDoorTwo
import Derived.WalkLawsBesides
namespace Go.Proofs.YtcdpadggjkobjaaGreatDoor
open Go.RowKit

theorem cmpB_range (a b : List UInt8) : Lib.compareBytes a b = -1 ∨ Lib.compareBytes a b = 0 ∨ Lib.compareBytes a b = 1 := by
  induction a generalizing b with
  | nil => cases b <;> simp [Lib.compareBytes]
  | cons x a ih =>
    cases b with
    | nil => simp [Lib.compareBytes]
    | cons y b =>
      rw [Lib.compareBytes]
      split
      · simp
      · split
        · simp
        · exact ih b
theorem cmpB_less (a b : List UInt8) : Op.bytesLess a b = decide (Lib.compareBytes a b = -1) := by
  induction a generalizing b with
  | nil => cases b <;> simp [Lib.compareBytes, Op.bytesLess]
  | cons x a ih =>
    cases b with
    | nil => simp [Lib.compareBytes, Op.bytesLess]
    | cons y b =>
      rw [Lib.compareBytes, Op.bytesLess, ih b]
      by_cases h : x < y
      · rw [if_pos h]; simp [h]
      · rw [if_neg h]
        by_cases h' : y < x
        · have : x ≠ y := fun e => by subst e; exact h h'
          rw [if_pos h']; simp [h, this]
        · have : x = y := UInt8.le_antisymm (UInt8.not_lt.1 h') (UInt8.not_lt.1 h)
          rw [if_neg h']; simp [this]
theorem cmpB_eq (a b : List UInt8) : Lib.compareBytes a b = 0 ↔ a = b := by
  induction a generalizing b with
  | nil => cases b <;> simp [Lib.compareBytes]
  | cons x a ih =>
    cases b with
    | nil => simp [Lib.compareBytes]
    | cons y b =>
      rw [Lib.compareBytes]
      by_cases h : x < y
      · have : x ≠ y := fun e => by subst e; exact absurd h (UInt8.lt_irrefl _)
        rw [if_pos h]; simp [this]
      · rw [if_neg h]
        by_cases h' : y < x
        · have : x ≠ y := fun e => by subst e; exact h h'
          rw [if_pos h']; simp [this]
        · have : x = y := UInt8.le_antisymm (UInt8.not_lt.1 h') (UInt8.not_lt.1 h)
          rw [if_neg h', ih b]; simp [this]
theorem cmpL_eq (a b : List Int) : cmpL a b = 0 ↔ a = b := by
  induction a generalizing b with
  | nil => cases b <;> simp [cmpL]
  | cons x a ih =>
    cases b with
    | nil => simp [cmpL]
    | cons y b =>
      rw [cmpL]
      by_cases h : cmpI x y = 0
      · rw [if_pos h, ih b, cmpI_zero h]; simp
      · have : x ≠ y := fun e => h (by rw [e, cmpI_self])
        rw [if_neg h]; simp [h, this]
theorem beforeV_eq (xs ys : List Int) (s t : ByteArray) : beforeV xs ys s t = if cmpL xs ys = 0 then Lib.compareBytes (bl s) (bl t) else cmpL xs ys := by
  unfold beforeV
  simp only [orL]
  split
  · split
    · rename_i h; exact h.symm
    · rfl
  · rfl
def orderRes (r1 r2 : Res) (s t : ByteArray) : Int × Int := if errTwo r1 r2 = 0 then (beforeV (keyS r1.2) (keyS r2.2) s t, 0) else (0, errTwo r1 r2)
def sameRes (r1 r2 : Res) : Bool := decide (errTwo r1 r2 = 0) && decide (keyS r1.2 = keyS r2.2)
def OrderPost (w : World) (v : Int × Int) (e : Ending) (w' : World) : Prop := e = .returned (.tuple #[.int .i64 v.1, .int .i64 v.2]) ∧ Below w.heap.size w w'
def SamePost (w : World) (b : Bool) (e : Ending) (w' : World) : Prop := e = .returned (.bool b) ∧ Below w.heap.size w w'
theorem below_drewN {B : Nat} {a w : World} (h : Below B a w) (n : Nat) : Below B a (w.drewN n) := ⟨h.os, h.tape, h.output, h.size, h.block⟩

end Go.Proofs.YtcdpadggjkobjaaGreatDoor
