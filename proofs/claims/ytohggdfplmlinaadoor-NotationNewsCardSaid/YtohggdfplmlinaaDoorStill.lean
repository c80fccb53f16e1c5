/-
  A region that reads and calls quietly and ends in one forced tail: the kit's law with the world under its name. Conditions: those of the kit's law.
-/
import Derived.StillTailTactics
import Derived.Test.YtohggdfplmlinaaDoorMem
namespace Go.Proofs.YtohggdfplmlinaaDoor
open Go.RowKit

theorem region_tail {P : Program} {id : Nat} {Q : Exit → Act → World → Prop} {a : Act} {w : World} {l : List Oper} (n : Nat) (hm : P.follows .mixedOrders = true) (hB : Region.lexTailB .any l.toArray n = true)
    (h : wpStill P l.toArray w.drew (fun a' => wpList P l.toArray Q (l.drop n) a' w.drew) (l.take n) a) : (Code.region id l.toArray true).wp P Q a w := wp_region_still_tail n hm hB h
theorem add_at (b j : Nat) : (⟨b, 0, none⟩ : Addr).add j = ⟨b, j, none⟩ := by unfold Addr.add; split <;> simp_all
/-- A block that was just made reads as what lies in it. -/
theorem reads_new (w : World) (t : TypeId) (cs : List Value) : Reads (w.alloc (.cells cs.toArray t)) (w.heap.size + 1) 1 (some ⟨w.heap.size, 0, none⟩) cs.length cs := by
  refine ⟨by simp, fun _ => ⟨_, rfl, by simp, fun j u hu => ?_⟩⟩
  rw [add_at, (Blk.new w t cs.toArray).cell j]
  simpa using hu
end Go.Proofs.YtohggdfplmlinaaDoor
