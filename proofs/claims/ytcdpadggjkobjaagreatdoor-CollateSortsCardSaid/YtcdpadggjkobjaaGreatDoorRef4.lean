/-
  The reference's longest, read, Split and Key of layer 39. Conditions: an alphabet in memory as New makes it; texts of at most 65,536 bytes are read.
-/
import Derived.Test.YtcdpadggjkobjaaGreatDoorRef2
namespace Go.Proofs.YtcdpadggjkobjaaGreatDoor
open Go.RowKit

theorem lt_of_cell {w : World} {a : Addr} {v : Value} (h : w.cell? a = some v) : a.block < w.heap.size := by
  rcases Nat.lt_or_ge a.block w.heap.size with h' | h'
  · exact h'
  · rw [World.cell?, Array.getElem?_eq_none h'] at h; cases h

/-- An alphabet of a size that the statements speak of. -/
def SmallG (gs : List (List ByteArray)) : Prop := gs.length ≤ 20000 ∧ (∀ l ∈ gs, l.length ≤ 20000) ∧ ∀ l ∈ gs, ∀ x ∈ l, x.size ≤ 20000
theorem info_int : (Tryz.prog.info? 3).map (fun i => (i.zero, i.size, i.bytes)) = some (some (.int .i64 0), 1, 8) := by kernel_rfl
abbrev strs (l : List ByteArray) : List Value := l.map Value.string
abbrev ints (l : List Int) : List Value := l.map (Value.int .i64)
def ReadPost (w : World) (r : Int × List (ByteArray × Int)) (e : Ending) (w' : World) : Prop :=
  ∃ v1 v2, e = .returned (.tuple #[v1, v2, .int .i64 r.1]) ∧ w'.ownsRow w.heap.size 9 1 v1 r.2.length (strs (letS r.2)) ∧ w'.ownsRow w.heap.size 3 1 v2 r.2.length (ints (keyS r.2)) ∧ Below w.heap.size w w'

end Go.Proofs.YtcdpadggjkobjaaGreatDoor
