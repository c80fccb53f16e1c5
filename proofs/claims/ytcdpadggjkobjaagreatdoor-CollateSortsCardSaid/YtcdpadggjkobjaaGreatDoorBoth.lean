/-
  layer 39: the statements' own 'both'; Split and Key at nil alphabets. Conditions: at most 1000 texts of at most 3,000 bytes in all; the cell of the library's MaxLen holds some int.
-/
import Derived.Test.YtcdpadggjkobjaaGreatDoorKey
import Derived.Test.YtcdpadggjkobjaaGreatDoorRef3
namespace Go.Proofs.YtcdpadggjkobjaaGreatDoor
open Go.RowKit

/-- The alphabet of New, or none where New returned an error. -/
def groupsO (ss : List ByteArray) : Option (List (List ByteArray)) := if newErr ss = 0 then some (groupsB ss) else none
def AlphO (w : World) (p : Option Addr) : Option (List (List ByteArray)) → Prop
  | none => p = none
  | some gs => ∃ g, p = some ⟨g, 0, none⟩ ∧ Alph w g gs ∧ GoodG gs
theorem AlphO.below {w w' : World} {p : Option Addr} {og : Option (List (List ByteArray))} (h : AlphO w p og) (hb : Below w.heap.size w w') : AlphO w' p og := by
  cases og with
  | none => exact h
  | some gs => obtain ⟨g, h1, h2, h3⟩ := h; exact ⟨g, h1, h2.below hb, h3⟩
end Go.Proofs.YtcdpadggjkobjaaGreatDoor
