/-
  The reference's New of layer 39. Conditions: at most 1000 texts of at most 3,000 bytes in all.
-/
import Derived.Test.YtcdpadggjkobjaaGreatDoorRef2
import Derived.Test.YtcdpadggjkobjaaGreatDoorFew
import Derived.BigQuiet
import Derived.Deep.QuietTactic
namespace Go.Proofs.YtcdpadggjkobjaaGreatDoor
open Go.RowKit

def groupsB (ss : List ByteArray) : List (List ByteArray) := ss.map piecesB
def totalP (ss : List ByteArray) : Nat := (groupsB ss).flatten.length
def dupB (l : List ByteArray) : Bool := decide (¬ l.Nodup)
def newErr (ss : List ByteArray) : Int :=
  if 256 < totalP ss then 12
  else if (groupsB ss).flatten.all (fun x => letterB (bl x)) = false then 15
  else if dupB (groupsB ss).flatten then 6 else 0
theorem totalP_succ (ss : List ByteArray) (k : Nat) (hk : k < ss.length) : totalP (ss.take (k + 1)) = totalP (ss.take k) + (piecesB ss[k]).length := by
  unfold totalP groupsB
  rw [List.take_succ_eq_append_getElem hk, List.map_append, List.flatten_append]; simp
theorem totalP_le (ss : List ByteArray) : totalP ss ≤ totalS ss + ss.length := by
  unfold totalP totalS groupsB
  induction ss with
  | nil => simp
  | cons a l ih =>
    have := piecesB_le a
    simp only [List.map_cons, List.flatten_cons, List.length_append, List.sum_cons, List.length_cons] at ih ⊢
    omega
theorem totalS_take (ss : List ByteArray) (k : Nat) : totalS (ss.take k) ≤ totalS ss := by
  unfold totalS
  conv => rhs; rw [← List.take_append_drop k ss, List.map_append, List.sum_append]
  omega
theorem totalS_mem {ss : List ByteArray} {s : ByteArray} (h : s ∈ ss) : s.size ≤ totalS ss := le_sum_of_mem' (List.mem_map_of_mem h)

end Go.Proofs.YtcdpadggjkobjaaGreatDoor
