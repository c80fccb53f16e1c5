/-
  layer 36: what New hands back, as a promise. Conditions: none.
-/
import Derived.Test.YtdelkgfodeilkaaDoorPtV
import Derived.Test.YtdelkgfodeilkaaDoorPtM
namespace Go.Proofs.YtdelkgfodeilkaaDoor
open Go.RowKit Go.Lib

/-- What New hands back. -/
def NewPost (w : World) (names : List ByteArray) (roads : List Rd) (e : Ending) (w' : World) : Prop :=
  (newE names roads ≠ 0 → e = .returned (.tuple #[.pointer none, .int .i64 (newE names roads)])) ∧
  (newE names roads = 0 → ∃ g, e = .returned (.tuple #[.pointer (some ⟨g, 0, none⟩), .int .i64 0]) ∧ MapAt w' g (newM names roads)) ∧ Below w.heap.size w w'
end Go.Proofs.YtdelkgfodeilkaaDoor
