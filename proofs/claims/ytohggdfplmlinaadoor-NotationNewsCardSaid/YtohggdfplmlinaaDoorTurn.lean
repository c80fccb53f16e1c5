/-
  Words of memory under a turn of an iterator's own blocks. Conditions: none. Of no program.
-/
import Derived.Test.YtohggdfplmlinaaDoorRange
namespace Go.Proofs.YtohggdfplmlinaaDoor
open Go.RowKit

theorem below_put {n l : Nat} {W : World} {o o' : Obj} (hl : n ≤ l) (h : W.heap[l]? = some o) : Below n W (W.putObj l o') :=
  (Below.refl n W).grown (grownBy_putObj' W l o') (by have := (Array.getElem?_eq_some_iff.1 h).1; omega) (fun k e => by cases e; exact hl)
theorem Blk.turn {mine : Nat → Prop} {B g : Nat} {t : TypeId} {cs : Array Value} {W W' : World} {row : Option Nat} (h : Blk W g t cs) (hg : W.grownBy W' row) (hr : ∀ r, row = some r → mine r ∨ (B ≤ r ∧ ∃ o : Obj, W.heap[r]? = some o ∧ o.isCells = false)) (hm : ¬ mine g) : Blk W' g t cs :=
  h.grown hg (fun e => by
    rcases hr g e.symm with h1 | ⟨_, o, ho, hc⟩
    · exact hm h1
    · unfold Blk at h; rw [h] at ho; injection ho with ho; subst ho; simp [Obj.isCells] at hc)
theorem own_turn {mine : Nat → Prop} {B b0 k : Nat} {e : TypeId} {n : Nat} {v : Value} {xs : List Value} {W W' : World} {row : Option Nat} (h : W.ownsRow b0 e k v n xs) (hg : W.grownBy W' row) (hr : ∀ r, row = some r → mine r ∨ (B ≤ r ∧ ∃ o : Obj, W.heap[r]? = some o ∧ o.isCells = false)) (hm : ∀ r, mine r → r < b0) : W'.ownsRow b0 e k v n xs := by
  refine h.kept hg ?_
  rcases h.2 with ⟨rfl, _⟩ | ⟨g, cap, cur, rfl, hb, hh, _⟩
  · exact .inl rfl
  · refine .inr (fun e => ?_)
    simp only [Value.ownBlock] at e
    rcases hr g e.symm with h1 | ⟨_, o, ho, hc⟩
    · have := hm g h1; omega
    · rw [hh] at ho; injection ho with ho; subst ho; simp [Obj.isCells] at hc

theorem own_cells {w : World} {b k : Nat} {e : TypeId} {n : Nat} {v : Value} {xs : List Value} (h : w.ownsRow b e k v n xs) : ∀ (j : Nat) (o : Obj), v.ownBlock = some j → w.heap[j]? = some o → o.isCells = true := by
  intro j o hj ho
  rcases h.2 with ⟨rfl, _⟩ | ⟨g, cap, cur, rfl, hb, hh, _⟩
  · cases hj
  · simp only [Value.ownBlock, Option.some.injEq] at hj; subst hj
    rw [hh] at ho; injection ho with ho; subst ho; rfl

end Go.Proofs.YtohggdfplmlinaaDoor
