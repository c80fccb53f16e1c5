/-
  CollateReads of layer 39, walked. Conditions: the cell of the library's MaxLen holds some int; arguments of the reach.
-/
import Derived.Test.YtcdpadggjkobjaaGreatDoorWorks
namespace Go.Proofs.YtcdpadggjkobjaaGreatDoor
open Go.RowKit

theorem equalS_refl (A B : Option Addr) (n m c d : Nat) (xs : List ByteArray) (w : World) (K L : Nat) (hx : ReadS w K A n xs) (hy : ReadS w L B m xs) (hn : n ≤ maxLen) :
    Calls Tryz.prog 16 #[.slice A n c, .slice B m d] w (Quietly w (.bool true)) := by
  have h := equalS_any A B n m c d xs xs w K L hx hy hn
  rwa [decide_eq_true (rfl : xs = xs)] at h
theorem equalI_refl (A B : Option Addr) (n m c d : Nat) (xs : List Int) (w : World) (K L : Nat) (hx : ReadI w K A n xs) (hy : ReadI w L B m xs) (hn : n ≤ maxLen) :
    Calls Tryz.prog 25 #[.slice A n c, .slice B m d] w (Quietly w (.bool true)) := by
  have h := equalI_any A B n m c d xs xs w K L hx hy hn
  rwa [decide_eq_true (rfl : xs = xs)] at h
theorem fewB_yes {ss : List ByteArray} {most bytes : Int} (h : fewB ss most bytes = true) : (ss.length : Int) ≤ most ∧ (totalS ss : Int) ≤ bytes := by
  unfold fewB at h
  rw [Bool.and_eq_true, decide_eq_true_iff, decide_eq_true_iff] at h
  exact h

end Go.Proofs.YtcdpadggjkobjaaGreatDoor
