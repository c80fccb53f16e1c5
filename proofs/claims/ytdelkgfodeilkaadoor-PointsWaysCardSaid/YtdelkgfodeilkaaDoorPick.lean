/-
  A remainder of a byte. Of no program. Conditions: none.
-/
import Derived.WalkKit
namespace Go.Proofs.YtdelkgfodeilkaaDoor
open Go.RowKit

theorem mod_pick (x : UInt8) {n : Nat} (h : ¬ n = 0) : ∃ a : Nat, a < n ∧ (wrap64 (x.toNat : Int)).tmod (n : Int) = (a : Int) := by
  have hx := x.toNat_lt
  refine ⟨x.toNat % n, Nat.mod_lt _ (by omega), ?_⟩
  rw [show wrap64 (x.toNat : Int) = x.toNat by unfold wrap64; omega, Int.ofNat_tmod]
theorem add_nextP (a : Addr) (n j : Nat) : a.add (n + (j + 1)) = ⟨(a.add n).block, (a.add n).off + (j + 1), none⟩ := by
  unfold Addr.add
  by_cases h : n = 0
  · subst h; simp
  · simp [h, Nat.add_assoc]
theorem add_succP (a : Addr) (n : Nat) : a.add (n + 1) = ⟨a.block, a.off + (n + 1), none⟩ := by unfold Addr.add; simp
end Go.Proofs.YtdelkgfodeilkaaDoor
