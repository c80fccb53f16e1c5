/-
  The reference's 'pieces' and 'letter' of layer 39. Conditions: texts of at most 16,384 bytes (pieces).
-/
import Derived.Test.YtcdpadggjkobjaaGreatDoorProg
import Derived.Test.YtcdpadggjkobjaaGreatDoorMem
import Derived.Test.YtcdpadggjkobjaaGreatDoorSpec
namespace Go.Proofs.YtcdpadggjkobjaaGreatDoor
open Go.RowKit

def letterB (l : List UInt8) : Bool := decide (1 ≤ l.length) && decide (l.length ≤ 8) && l.all (fun c => decide (32 < c.toNat))
theorem letterB_short {l : List UInt8} (h : l.length < 1 ∨ 8 < l.length) : letterB l = false := by
  unfold letterB
  rcases h with h | h
  · rw [decide_eq_false (show ¬ 1 ≤ l.length by omega)]; rfl
  · rw [decide_eq_false (show ¬ l.length ≤ 8 by omega)]; simp
theorem letterB_bad {l : List UInt8} {k : Nat} (hk : k < l.length) (h : l[k].toNat ≤ 32) : letterB l = false := by
  have : l.all (fun c => decide (32 < c.toNat)) = false := by
    rw [List.all_eq_false]; exact ⟨l[k], List.getElem_mem hk, by simp; omega⟩
  unfold letterB; rw [this]; simp
theorem letterB_good {l : List UInt8} (h1 : 1 ≤ l.length) (h8 : l.length ≤ 8) (h : ∀ j (hj : j < l.length), 32 < l[j].toNat) : letterB l = true := by
  unfold letterB
  rw [decide_eq_true h1, decide_eq_true h8]
  simp only [Bool.and_self, Bool.true_and, List.all_eq_true, decide_eq_true_eq]
  intro c hc; obtain ⟨j, hj, rfl⟩ := List.getElem_of_mem hc; exact h j hj

theorem info_string : (Tryz.prog.info? 9).map (fun i => (i.zero, i.size, i.bytes)) = some (some (.string ByteArray.empty), 1, 16) := by kernel_rfl

/-- A call hands back a new row of strings. -/
def GivesS (w : World) (ss : List ByteArray) (e : Ending) (w' : World) : Prop :=
  ∃ v, e = .returned v ∧ w'.ownsRow w.heap.size 9 1 v ss.length (ss.map Value.string) ∧ Below w.heap.size w w'

end Go.Proofs.YtcdpadggjkobjaaGreatDoor
