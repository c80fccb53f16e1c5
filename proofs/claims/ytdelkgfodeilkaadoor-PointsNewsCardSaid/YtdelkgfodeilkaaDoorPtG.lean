/-
  layer 36: the graph of a map, and what a map of New is. Conditions: none.
-/
import Derived.Test.YtdelkgfodeilkaaDoorPtM
import Derived.Test.YtdelkgfodeilkaaDoorPtP
namespace Go.Proofs.YtdelkgfodeilkaaDoor
open Go.RowKit Go.Lib

def edgeOf (M : Pts) : Gr := fun u v l => ∃ h : u < M.near.length, (v, l) ∈ M.near[u]
/-- What New makes: both ends of each road, in order, each other end once. -/
structure GoodM (M : Pts) : Prop where
  len : M.near.length = M.names.length
  few : M.names.length ≤ 128
  ends : ∀ u v l, edgeOf M u v l → v < M.names.length ∧ v ≠ u ∧ 1 ≤ l ∧ l ≤ 1073741824
  sym : ∀ u v l, edgeOf M u v l → edgeOf M v u l
  order : ∀ (u : Nat) (h : u < M.near.length), (M.near[u].map (·.1)).Pairwise (· < ·)
theorem GoodM.lens {M : Pts} (h : GoodM M) : Lens (edgeOf M) 1073741824 := fun u v l he => (h.ends u v l he).2.2
theorem GoodM.lt {M : Pts} (h : GoodM M) {u v : Nat} {l : Int} (he : edgeOf M u v l) : u < M.names.length ∧ v < M.names.length := ⟨by obtain ⟨h1, _⟩ := he; rw [← h.len]; exact h1, (h.ends u v l he).1⟩
/-- What from hands back: the row of distances. -/
def FromPost (w : World) (M : Pts) (a : Nat) (e : Ending) (w' : World) : Prop :=
  ∃ (v : Value) (r : Nat → Int), e = .returned v ∧ w'.ownsRow w.heap.size 2 1 v M.names.length ((List.range M.names.length).map fun x => .int .i64 (r x)) ∧ DistRow (edgeOf M) a r ∧ Below w.heap.size w w'
end Go.Proofs.YtdelkgfodeilkaaDoor
