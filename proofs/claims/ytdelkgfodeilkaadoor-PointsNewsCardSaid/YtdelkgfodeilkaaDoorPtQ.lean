/-
  layer 36: the memory of from: the row of distances, the open points. Conditions: none.
-/
import Derived.Test.YtdelkgfodeilkaaDoorPtG
namespace Go.Proofs.YtdelkgfodeilkaaDoor
open Go.RowKit Go.Lib

/-- The row of distances as it lies in memory. -/
def rowA (N : Nat) (r : Nat → Int) : List Value := (List.range N).map fun x => .int .i64 (r x)
theorem rowA_len (N : Nat) (r : Nat → Int) : (rowA N r).length = N := by simp [rowA]
theorem rowA_get {N : Nat} (r : Nat → Int) {x : Nat} (h : x < N) : (rowA N r).toArray[x]? = some (.int .i64 (r x)) := by simp [rowA, h]
theorem rowA_set {N : Nat} (r : Nat → Int) {x : Nat} (hx : x < N) (d : Int) : (rowA N r).toArray.setIfInBounds x (.int .i64 d) = (rowA N (setF r x d)).toArray := by
  rw [List.setIfInBounds_toArray]
  congr 1
  apply List.ext_getElem?
  intro i
  rw [List.getElem?_set]
  by_cases e : x = i
  · subst e; simp [rowA, setF, hx]
  · rw [if_neg e]
    simp only [rowA, List.getElem?_map]
    by_cases hi : i < N
    · rw [List.getElem?_range hi]; simp [setF, Ne.symm e]
    · simp [hi]
def nats (l : List Nat) : List Value := l.map fun (x : Nat) => Value.int .i64 (x : Int)
/-- The memory of from in its loop. -/
structure FromM (w wr : World) (b q N : Nat) (r : Nat → Int) (op : List Nat) (v : Value) : Prop where
  box : Blk wr b 63 #[.slice (some ⟨q, 0, none⟩) N N]
  row : Blk wr q 2 (rowA N r).toArray
  opn : wr.ownsRow w.heap.size 3 1 v op.length (nats op)
  lt : ∀ x ∈ op, x < N
  below : Below w.heap.size w wr
  hb : w.heap.size ≤ b
  hq : w.heap.size ≤ q
theorem FromM.alloc {w wr : World} {b q N : Nat} {r : Nat → Int} {op : List Nat} {v : Value} (h : FromM w wr b q N r op v) (o : Obj) : FromM w (wr.alloc o) b q N r op v :=
  ⟨h.box.alloc o, h.row.alloc o, h.opn.alloc o, h.lt, h.below.alloc h.below.size o, h.hb, h.hq⟩
theorem FromM.drew {w wr : World} {b q N : Nat} {r : Nat → Int} {op : List Nat} {v : Value} (h : FromM w wr b q N r op v) : FromM w wr.drew b q N r op v :=
  ⟨h.box, h.row, h.opn, h.lt, h.below.drew, h.hb, h.hq⟩
/-- A cell of a block that none of these is. -/
theorem FromM.far {w wr : World} {b q N : Nat} {r : Nat → Int} {op : List Nat} {v : Value} (h : FromM w wr b q N r op v) {p : Nat} (hp : w.heap.size ≤ p) (h1 : b ≠ p) (h2 : q ≠ p) (h3 : v.ownBlock ≠ some p) (j : Nat) (u : Value) : FromM w (wr.setCell ⟨p, j, none⟩ u) b q N r op v :=
  ⟨h.box.far h1 u, h.row.far h2 u, ownsRow_setCell_other h.opn h3 u, h.lt, h.below.setCell (p := ⟨p, j, none⟩) hp u, h.hb, h.hq⟩
theorem FromM.dist {w wr : World} {b q N : Nat} {r : Nat → Int} {op : List Nat} {v : Value} (h : FromM w wr b q N r op v) {x : Nat} (hx : x < N) (d : Int) : FromM w (wr.setCell ⟨q, x, none⟩ (.int .i64 d)) b q N (setF r x d) op v :=
  ⟨h.box.far (p := ⟨q, x, none⟩) (Blk.ne_ h.box h.row (by decide)) _, by rw [← rowA_set r hx]; exact h.row.set_ x _, ownsRow_setCell_other h.opn (own_blk_ne h.opn h.row (by decide)) _, h.lt, h.below.setCell (p := ⟨q, x, none⟩) h.hq _, h.hb, h.hq⟩
theorem FromM.push {w wr w' : World} {b q N : Nat} {r : Nat → Int} {op : List Nat} {v v' : Value} (h : FromM w wr b q N r op v) {x : Nat} (hx : x < N) (hg : wr.grownBy w' v.ownBlock) (ho : w'.ownsRow w.heap.size 3 1 v' (op.length + 1) (nats op ++ [.int .i64 (x : Int)])) : FromM w w' b q N r (op ++ [x]) v' :=
  ⟨h.box.grown hg (fun e => own_blk_ne h.opn h.box (by decide) e.symm), h.row.grown hg (fun e => own_blk_ne h.opn h.row (by decide) e.symm), by simpa [nats] using ho, fun y hy => by
    rcases List.mem_append.1 hy with hy | hy
    · exact h.lt y hy
    · obtain rfl := List.mem_singleton.1 hy; exact hx, h.below.grown hg h.below.size (fun g hg => (h.opn.lt g hg).1), h.hb, h.hq⟩
theorem FromM.cell {w wr : World} {b q N : Nat} {r : Nat → Int} {op : List Nat} {v : Value} (h : FromM w wr b q N r op v) {x : Nat} (hx : x < N) : wr.cell? ⟨q, x, none⟩ = some (.int .i64 (r x)) := (Blk.cell h.row x).trans (rowA_get r hx)
theorem FromM.congr {w wr : World} {b q N : Nat} {r r' : Nat → Int} {op : List Nat} {v : Value} (h : FromM w wr b q N r op v) (e : ∀ x, x < N → r x = r' x) : FromM w wr b q N r' op v := by
  have : rowA N r = rowA N r' := by unfold rowA; exact List.map_congr_left fun x hx => by rw [e x (List.mem_range.1 hx)]
  exact ⟨h.box, this ▸ h.row, h.opn, h.lt, h.below, h.hb, h.hq⟩
end Go.Proofs.YtdelkgfodeilkaaDoor
