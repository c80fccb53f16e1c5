/-
  The reference's 'made', 'Letters' of layer 39. Conditions: an alphabet in memory as New makes it; at most 16,384 letters.
-/
import Derived.Test.YtcdpadggjkobjaaGreatDoorRef1
import Derived.Test.YtcdpadggjkobjaaGreatDoorMat
namespace Go.Proofs.YtcdpadggjkobjaaGreatDoor
open Go.RowKit

abbrev strM (gs : List (List ByteArray)) : List (List Value) := gs.map (·.map Value.string)
theorem flatten_take_succ {gs : List (List ByteArray)} {k : Nat} (hk : k < gs.length) : (gs.take (k + 1)).flatten = (gs.take k).flatten ++ gs[k] := by
  rw [List.take_succ_eq_append_getElem hk, List.flatten_append]; simp
theorem flatten_take_le (gs : List (List ByteArray)) (k : Nat) : (gs.take k).flatten.length ≤ gs.flatten.length := by
  conv => rhs; rw [← List.take_append_drop k gs, List.flatten_append, List.length_append]
  omega

end Go.Proofs.YtcdpadggjkobjaaGreatDoor
