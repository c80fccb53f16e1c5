/-
  Layer 40: the sort's own kit: a row of texts that is being sorted; a region that reads the row and compares. Conditions: none.
-/
import Derived.Sort.LotA
import Derived.Sort.Lot0
import Derived.BigRegion
import Derived.Deep.Quiet
import Derived.Deep.QuietTactic
import Derived.Test.YtgkpoopiamicnaaDoorZaan
namespace Go.Proofs.YtgkpoopiamicnaaDoor
open Go.RowKit Go.Lib

/-- A world of a class. -/
structure InS (C : World → Prop) where
  W : World
  ok : C W
theorem wp_region_in {P : Program} {C : World → Prop} {id : Nat} {Q : Exit → Act → World → Prop} {a : Act} {w : World} {l : List Oper} (hm : P.follows .mixedOrders = true) (hB : Region.lexB .any l.toArray = true) (hC : C w.drew)
    (h : wpQuiet P l.toArray (fun W => ∃ p : InS C, W = p.W) (fun a' => ∀ W, (∃ p : InS C, W = p.W) → Q .normal a' W) l a) : (Code.region id l.toArray true).wp P Q a w :=
  wp_region_quiet (C := fun W => ∃ p : InS C, W = p.W) hm hB ⟨⟨_, hC⟩, rfl⟩ (by simpa using h)
theorem Calls.in_ {P : Program} {f : FuncId} {args : Array Value} {C : World → Prop} {p : InS C} {v : Value} (h : Calls P f args p.W fun e W' => e = .returned v ∧ C W') : Calls P f args p.W fun e W' => e = .returned v ∧ ∃ q : InS C, W' = q.W :=
  h.mono fun _ _ ⟨e, hc⟩ => ⟨e, ⟨_, hc⟩, rfl⟩
/-- The row's block, as it was at the sort's beginning but for what its cells hold. -/
def ObjS (w0 W : World) (blk : Nat) : Prop := ∀ cur T, w0.heap[blk]? = some (.cells cur T (0, 0)) → ∃ cur', W.heap[blk]? = some (.cells cur' T (0, 0)) ∧ cur'.size = cur.size
theorem ObjS.setCell {w0 W : World} {blk : Nat} (h : ObjS w0 W blk) (p : Addr) (v : Value) : ObjS w0 (W.setCell p v) blk := fun cur T e => by
  obtain ⟨c2, e2, e3⟩ := h cur T e
  by_cases hp : p.block = blk
  · refine ⟨if p.spot.isSome then c2 else c2.setIfInBounds p.off v, ?_, by split <;> simp [e3]⟩
    show (W.heap.modify p.block _)[blk]? = _
    rw [Array.getElem?_modify, if_pos hp, e2]
    rfl
  · refine ⟨c2, ?_, e3⟩
    show (W.heap.modify p.block _)[blk]? = _
    rw [Array.getElem?_modify, if_neg hp, e2]
theorem ObjS.heap {w0 W W' : World} {blk : Nat} (h : ObjS w0 W blk) (e : W'.heap[blk]? = W.heap[blk]?) : ObjS w0 W' blk := fun cur T he => by
  obtain ⟨c2, e2, e3⟩ := h cur T he
  exact ⟨c2, e.trans e2, e3⟩
/-- The row of texts is d, in a world in which nothing below B has turned. -/
structure StR {α : Type} [Inhabited α] (enc : α → ByteArray) (B : Nat) (w0 : World) (blk : Nat) (d : Array α) (W : World) : Prop where
  below : Below B w0 W
  ge : B ≤ blk
  lt : blk < W.heap.size
  cell : ∀ i, i < d.size → W.cell? ⟨blk, i, none⟩ = some (.string (enc d[i]!))
  frz : ∀ i, i < d.size → W.frozen? ⟨blk, i, none⟩ = false
  obj : ObjS w0 W blk
section
variable {α : Type} [Inhabited α] {enc : α → ByteArray} {B : Nat} {w0 W W' : World} {blk : Nat} {d : Array α}
theorem StR.of_below (h : StR enc B w0 blk d W) (hb : Below W.heap.size W W') : StR enc B w0 blk d W' :=
  ⟨h.below.trans (hb.mono (Nat.le_trans h.ge (Nat.le_of_lt h.lt))), h.ge, Nat.lt_of_lt_of_le h.lt hb.size, fun i hi => by rw [hb.cell h.lt]; exact h.cell i hi, fun i hi => by rw [hb.frozen h.lt]; exact h.frz i hi, h.obj.heap (hb.block blk h.lt)⟩
theorem StR.drew (h : StR enc B w0 blk d W) : StR enc B w0 blk d W.drew := h.of_below (Below.refl _ _).drew
/-- The exchange. -/
theorem StR.swap (h : StR enc B w0 blk d W) {i j : Nat} (hi : i < d.size) (hj : j < d.size) : StR enc B w0 blk (Sort.swp d i j) ((W.setCell ⟨blk, i, none⟩ (.string (enc d[j]!))).setCell ⟨blk, j, none⟩ (.string (enc d[i]!))) := by
  have hc2 : ∃ u, (W.setCell ⟨blk, i, none⟩ (.string (enc d[j]!))).cell? ⟨blk, j, none⟩ = some u := by
    by_cases e : i = j
    · subst e; exact ⟨_, World.cell?_setCell_same _ _ _ (h.cell i hi)⟩
    · exact ⟨_, (World.cell?_setCell_other _ _ _ _ (by intro e'; simp only [Addr.mk.injEq] at e'; omega)).trans (h.cell j hj)⟩
  obtain ⟨u, hu⟩ := hc2
  refine StR.mk ?_ h.ge (by simpa using h.lt) (fun k hk => ?_) (fun k hk => ?_) ((h.obj.setCell _ _).setCell _ _)
  · exact (h.below.setCell (p := ⟨blk, i, none⟩) h.ge _).setCell (p := ⟨blk, j, none⟩) h.ge _
  · rw [Sort.size_swp] at hk
    by_cases h1 : k = j
    · subst h1; rw [Sort.swp_right d i k hj]; exact World.cell?_setCell_same _ _ _ hu
    · rw [World.cell?_setCell_other _ _ _ _ (by intro e'; simp only [Addr.mk.injEq] at e'; omega)]
      by_cases h2 : k = i
      · subst h2; rw [Sort.swp_left d k j hi h1]; exact World.cell?_setCell_same _ _ _ (h.cell k hi)
      · rw [Sort.swp_other d i j k h2 h1, World.cell?_setCell_other _ _ _ _ (by intro e'; simp only [Addr.mk.injEq] at e'; omega)]; exact h.cell k hk
  · rw [Sort.size_swp] at hk
    rw [World.frozen?_setCell, World.frozen?_setCell]; exact h.frz k hk
/-- The exchange, as the walk finds it. -/
theorem StR.swapN (h : StR enc B w0 blk d W) {i j N : Nat} {x y : ByteArray} (hN : d.size = N) (hi : i < N) (hj : j < N) (hx : enc d[i]! = x) (hy : enc d[j]! = y) : StR enc B w0 blk (Sort.swp d i j) ((W.setCell ⟨blk, i, none⟩ (.string y)).setCell ⟨blk, j, none⟩ (.string x)).drew := by
  subst hx hy hN
  exact (h.swap hi hj).drew
/-- What the walk of an exchange wants. -/
theorem StR.cells (h : StR enc B w0 blk d W) {i N : Nat} {x : ByteArray} (hN : d.size = N) (hi : i < N) (hx : enc d[i]! = x) : W.cell? ⟨blk, i, none⟩ = some (.string x) ∧ W.frozen? ⟨blk, i, none⟩ = false ∧ (i : Int) < (N : Int) := by
  subst hx hN
  exact ⟨h.cell i hi, h.frz i hi, by omega⟩
/-- The second place behind the first store. -/
theorem StR.two (h : StR enc B w0 blk d W) {i j : Nat} (hi : i < d.size) (hj : j < d.size) (v : Value) : ∃ u, (W.setCell ⟨blk, i, none⟩ v).cell? ⟨blk, j, none⟩ = some u := by
  by_cases e : i = j
  · subst e; exact ⟨_, World.cell?_setCell_same _ _ _ (h.cell i hi)⟩
  · exact ⟨_, (World.cell?_setCell_other _ _ _ _ (by intro e'; simp only [Addr.mk.injEq] at e'; omega)).trans (h.cell j hj)⟩
end
end Go.Proofs.YtgkpoopiamicnaaDoor
