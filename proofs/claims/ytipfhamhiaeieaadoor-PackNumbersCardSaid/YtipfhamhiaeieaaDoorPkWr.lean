/-
  layer 43: bytes that are written: the list behind a writer's pointer; number. Conditions: the list is of the reach.
-/
import Derived.Test.YtipfhamhiaeieaaDoorProg
import Derived.WalkKit
import Derived.Test.YtipfhamhiaeieaaDoorPkCod
import Derived.Test.YtipfhamhiaeieaaDoorMem
import Derived.Test.YtipfhamhiaeieaaDoorStill
import Derived.Laws.BitsAllLaws
namespace Go.Proofs.YtipfhamhiaeieaaDoor
open Go.RowKit Go.Lib

abbrev bv (b : Nat) : Value := .int .u8 b
def CAP : Nat := 140737488351232
/-- The bytes behind a writer's pointer: a list of the call's own. -/
def Wr (w : World) (base g : Nat) (xs : List Nat) : Prop :=
  ∃ v, Blk w g 62 #[v] ∧ base ≤ g ∧ w.ownsRow base 5 1 v xs.length (xs.map bv)
def rowOf (w : World) (g : Nat) : Option Nat := (w.cell? ⟨g, 0, none⟩).bind Value.ownBlock
/-- What a writer's step leaves as it was: all but its variable and its list. -/
structure WStep (g : Nat) (w w' : World) : Prop where
  os : w'.os = w.os
  tape : w'.tape = w.tape
  output : w'.output = w.output
  size : w.heap.size ≤ w'.heap.size
  block : ∀ k, k < w.heap.size → k ≠ g → rowOf w g ≠ some k → w'.heap[k]? = w.heap[k]?
  row : rowOf w' g = rowOf w g ∨ ∃ k, rowOf w' g = some k ∧ w.heap.size ≤ k
theorem WStep.refl (g : Nat) (w : World) : WStep g w w := ⟨rfl, rfl, rfl, Nat.le_refl _, fun _ _ _ _ => rfl, .inl rfl⟩
theorem WStep.trans {g : Nat} {a b c : World} (h : WStep g a b) (k : WStep g b c) : WStep g a c := by
  refine ⟨k.os.trans h.os, k.tape.trans h.tape, k.output.trans h.output, Nat.le_trans h.size k.size, fun i hi hg hr => ?_, ?_⟩
  · refine (k.block i (Nat.lt_of_lt_of_le hi h.size) hg ?_).trans (h.block i hi hg hr)
    rcases h.row with e | ⟨j, e, hj⟩
    · rw [e]; exact hr
    · rw [e]; intro e'; injection e' with e'; omega
  · rcases k.row with e | ⟨j, e, hj⟩
    · rw [e]
      rcases h.row with e | ⟨j, e, hj⟩
      · exact .inl e
      · exact .inr ⟨j, e, hj⟩
    · exact .inr ⟨j, e, Nat.le_trans h.size hj⟩
theorem WStep.alloc {g : Nat} {a w : World} (h : WStep g a w) (hg : g < w.heap.size) (o : Obj) : WStep g a (w.alloc o) := by
  refine h.trans ⟨rfl, rfl, rfl, by simp, fun k hk _ _ => Below.heap_alloc _ _ _ hk, .inl ?_⟩
  unfold rowOf
  rw [World.cell?_alloc_lt w o ⟨g, 0, none⟩ hg]
theorem Wr.rowOf_ {w : World} {base g : Nat} {xs : List Nat} (h : Wr w base g xs) : ∀ k, rowOf w g = some k → base ≤ k ∧ k < w.heap.size := by
  obtain ⟨v, h1, h2, h3⟩ := h
  intro k hk
  unfold rowOf at hk
  rw [h1.cell 0] at hk
  exact h3.lt k (by simpa using hk)
theorem Wr.lt {w : World} {base g : Nat} {xs : List Nat} (h : Wr w base g xs) : g < w.heap.size := by
  obtain ⟨v, h1, _⟩ := h; exact h1.lt
theorem Wr.base_le {w : World} {base g : Nat} {xs : List Nat} (h : Wr w base g xs) : base ≤ g := by
  obtain ⟨v, _, h, _⟩ := h; exact h
theorem Wr.alloc {w : World} {base g : Nat} {xs : List Nat} (h : Wr w base g xs) (o : Obj) : Wr (w.alloc o) base g xs := by
  obtain ⟨v, h1, h2, h3⟩ := h
  exact ⟨v, h1.alloc o, h2, h3.alloc o⟩
theorem Wr.far {w : World} {base g k : Nat} {t : TypeId} {cs : Array Value} {xs : List Nat} (h : Wr w base g xs) (hk : Blk w k t cs) (h1 : t ≠ 5) (h2 : k ≠ g) (o : Nat) (u : Value) : Wr (w.setCell ⟨k, o, none⟩ u) base g xs := by
  obtain ⟨v, b1, b2, b3⟩ := h
  have hn := own_blk_ne b3 hk (Ne.symm h1)
  refine ⟨v, b1.far (Ne.symm h2) u, b2, b3.kept (row := some k) ⟨rfl, rfl, rfl, by simp [World.setCell], fun i hi hne => Below.heap_setCell _ _ _ _ (by simpa using hne)⟩ (.inr hn)⟩
/-- A step leaves what lies below the writer's own memory. -/
theorem WStep.below {w w' : World} {base g : Nat} {xs : List Nat} (h : WStep g w w') (hw : Wr w base g xs) : Below base w w' :=
  ⟨h.os, h.tape, h.output, h.size, fun k hk => by
    have := hw.base_le
    have := hw.lt
    exact h.block k (by omega) (by omega) (fun e => by have := hw.rowOf_ k e; omega)⟩
/-- A step leaves each block of another type. -/
theorem WStep.blk {w w' : World} {base g k : Nat} {t : TypeId} {cs : Array Value} {xs : List Nat} (h : WStep g w w') (hw : Wr w base g xs) (hk : Blk w k t cs) (h1 : t ≠ 5) (h2 : k ≠ g) : Blk w' k t cs := by
  refine (h.block k hk.lt h2 ?_).trans hk
  obtain ⟨v, b1, b2, b3⟩ := hw
  have hn := own_blk_ne b3 hk (Ne.symm h1)
  unfold rowOf
  rw [b1.cell 0]
  simpa using hn
/-- A step leaves what lies below it. -/
theorem WStep.reads {w w' : World} {base g B size n : Nat} {A : Option Addr} {ys : List Value} {xs : List Nat} (h : WStep g w w') (hw : Wr w base g xs) (hr : Reads w B size A n ys) (hB : B ≤ base) : Reads w' B size A n ys :=
  hr.below ((h.below hw).mono hB)
/-- Bytes behind the list. -/
theorem wr_append {w w1 w2 : World} {base g : Nat} {xs ys : List Nat} {v v' : Value} (h : Wr w base g xs) (hv : w.cell? ⟨g, 0, none⟩ = some v) (hs : WStep g w w1) (hr : rowOf w1 g = v.ownBlock) (h2 : w2.ownsRow base 5 1 v' (xs.length + ys.length) (xs.map bv ++ ys.map bv)) (h3 : w1.grownBy w2 v.ownBlock)
    (h4 : v'.ownBlock = v.ownBlock ∨ v'.ownBlock = some w1.heap.size) (h5 : w1.heap[g]? = w.heap[g]?) : Wr (w2.setCell ⟨g, 0, none⟩ v') base g (xs ++ ys) ∧ WStep g w (w2.setCell ⟨g, 0, none⟩ v') := by
  obtain ⟨u, b1, b2, b3⟩ := h
  have e : u = v := by
    have := b1.cell 0
    rw [hv] at this
    simpa using this.symm
  subst e
  have hgl := b1.lt
  have hne : u.ownBlock ≠ some g := own_blk_ne b3 b1 (by decide)
  have hB1 : Blk w1 g 62 #[u] := h5.trans b1
  have hB2 : Blk w2 g 62 #[u] := (h3.block g hB1.lt (fun e => hne e.symm)).trans hB1
  have hne' : v'.ownBlock ≠ some g := own_blk_ne h2 hB2 (by decide)
  have hset : Blk (w2.setCell ⟨g, 0, none⟩ v') g 62 #[v'] := by simpa using hB2.set_ 0 v'
  have hrow : rowOf (w2.setCell ⟨g, 0, none⟩ v') g = v'.ownBlock := by unfold rowOf; rw [hset.cell 0]; rfl
  have hrow0 : rowOf w g = u.ownBlock := by unfold rowOf; rw [hv]; rfl
  refine ⟨⟨v', hset, b2, ?_⟩, ?_⟩
  · rw [List.length_append, List.map_append]
    exact h2.kept (row := some g) ⟨rfl, rfl, rfl, by simp [World.setCell], fun i hi hne => Below.heap_setCell _ _ _ _ (by simpa using hne)⟩ (.inr hne')
  · refine hs.trans ⟨h3.os, h3.tape, h3.output, by have := h3.size; simpa [World.setCell] using this, fun k hk hg hr' => ?_, ?_⟩
    · rw [Below.heap_setCell _ _ _ _ hg]
      exact h3.block k hk (fun e => hr' (by rw [hr]; exact e.symm))
    · rw [hrow, hr]
      rcases h4 with h | h
      · exact .inl h
      · exact .inr ⟨_, h, Nat.le_refl _⟩
/-- One element behind the list: a slice of it is made first. -/
theorem wr_one {w w2 : World} {base g : Nat} {xs ys : List Nat} {v v' : Value} {o : Obj} (h : Wr w base g xs) (hv : w.cell? ⟨g, 0, none⟩ = some v) (h2 : w2.ownsRow base 5 1 v' (xs.length + ys.length) (xs.map bv ++ ys.map bv)) (h3 : (w.alloc o).grownBy w2 v.ownBlock)
    (h4 : v'.ownBlock = v.ownBlock ∨ v'.ownBlock = some (w.alloc o).heap.size) : Wr (w2.setCell ⟨g, 0, none⟩ v') base g (xs ++ ys) ∧ WStep g w (w2.setCell ⟨g, 0, none⟩ v') := by
  refine wr_append h hv ((WStep.refl g w).alloc h.lt o) ?_ h2 h3 h4 (Below.heap_alloc _ _ _ h.lt)
  unfold rowOf
  rw [World.cell?_alloc_lt w o ⟨g, 0, none⟩ h.lt, hv]; rfl
theorem low7 {n : Nat} : bits .or .u8 ((n : Int) % 256) 128 = ((n % 128 + 128 : Nat) : Int) := by
  have h := u8_or_nat (n % 256) 128 (by omega) (by decide)
  have e : (n % 256) ||| 128 = n % 128 + 128 := by
    have h2 : ∀ m : Fin 256, m.val ||| 128 = m.val % 128 + 128 := by decide +kernel
    rw [h2 ⟨n % 256, by omega⟩]; simp only []; omega
  rw [e] at h
  rw [← h]; congr 1
end Go.Proofs.YtipfhamhiaeieaaDoor
