/-
  layer 36: the distances of a map, as a function. Conditions: what New makes.
-/
import Derived.Test.YtdelkgfodeilkaaDoorPtG
namespace Go.Proofs.YtdelkgfodeilkaaDoor
open Go.RowKit Go.Lib

open Classical in
/-- What is begun with: the lengths of the roads. -/
noncomputable def startD (E : Gr) (i j : Nat) : Int := if i = j then 0 else if h : ∃ l, E i j l then Classical.choose h else -1
theorem exists_rows {E : Gr} {C : Int} {n : Nat} (hl : Lens E C) (hn : ∀ u v l, E u v l → u < n) (hf : ∀ u v l l', E u v l → E u v l' → l = l') (hi : ∀ u l, ¬ E u u l) : ∃ D : Nat → Nat → Int, ∀ i, DistRow E i (D i) := by
  have h0 : ∀ i, DistRow (upTo E 0 i) i (startD E i) := by
    refine first_row hl (fun i => by unfold startD; rw [if_pos rfl]) (fun i j l he => ?_) (fun i j hij h => ?_)
    · have hij : i ≠ j := fun e => by subst e; exact hi _ _ he
      unfold startD
      have hx : ∃ l, E i j l := ⟨l, he⟩
      rw [if_neg hij, dif_pos hx]
      exact hf _ _ _ _ (Classical.choose_spec hx) he
    · unfold startD
      rw [if_neg hij, dif_neg (fun ⟨l, hx⟩ => h l hx)]
  have hk : ∀ k, ∃ D : Nat → Nat → Int, ∀ i, DistRow (upTo E k i) i (D i) := by
    intro k
    induction k with
    | zero => exact ⟨_, h0⟩
    | succ k ih =>
      obtain ⟨D, hD⟩ := ih
      exact ⟨fun i => better D k i, fun i => better_row hl hD i⟩
  obtain ⟨D, hD⟩ := hk n
  exact ⟨D, fun i => all_row hn (hD i)⟩
theorem GoodM.func {M : Pts} (h : GoodM M) (u v : Nat) (l l' : Int) (h1 : edgeOf M u v l) (h2 : edgeOf M u v l') : l = l' := by
  obtain ⟨hu, h1⟩ := h1
  obtain ⟨_, h2⟩ := h2
  have ho := h.order u hu
  rw [List.pairwise_map] at ho
  generalize M.near[u] = row at *
  induction row with
  | nil => cases h1
  | cons x row ih =>
    rw [List.pairwise_cons] at ho
    rcases List.mem_cons.1 h1 with e1 | e1
    · rcases List.mem_cons.1 h2 with e2 | e2
      · exact (Prod.mk.inj (e1.trans e2.symm)).2
      · have := ho.1 _ e2; rw [← e1] at this; exact absurd this (Nat.lt_irrefl _)
    · rcases List.mem_cons.1 h2 with e2 | e2
      · have := ho.1 _ e1; rw [← e2] at this; exact absurd this (Nat.lt_irrefl _)
      · exact ih e1 e2 ho.2
theorem GoodM.rows {M : Pts} (h : GoodM M) : ∃ D : Nat → Nat → Int, ∀ i, DistRow (edgeOf M) i (D i) :=
  exists_rows h.lens (fun _ _ _ he => (h.lt he).1) h.func (fun u l he => (h.ends u u l he).2.1 rfl)
open Classical in
/-- The distances of a map; -1: not connected. -/
noncomputable def distM (M : Pts) : Nat → Nat → Int := if h : ∃ D : Nat → Nat → Int, ∀ i, DistRow (edgeOf M) i (D i) then Classical.choose h else fun _ _ => -1
theorem GoodM.dist {M : Pts} (h : GoodM M) (a : Nat) : DistRow (edgeOf M) a (distM M a) := by
  unfold distM
  rw [dif_pos h.rows]
  exact Classical.choose_spec h.rows a
theorem GoodM.eq {M : Pts} (h : GoodM M) {a : Nat} {r : Nat → Int} (hr : DistRow (edgeOf M) a r) (v : Nat) : distM M a v = r v := DistRow.unique h.lens (h.dist a) hr v
theorem GoodM.bound {M : Pts} (h : GoodM M) {a v : Nat} (ha : a < M.names.length) : distM M a v ≤ 137438953472 := by
  by_cases h0 : 0 ≤ distM M a v
  · have h1 := (h.dist a).bound (C := 1073741824) (by decide) h.lens ha (fun u v l he => (h.lt he).2) h0
    have h2 := h.few
    have h3 : (M.names.length : Int) * 1073741824 ≤ 128 * 1073741824 := Int.mul_le_mul_of_nonneg_right (by omega) (by decide)
    omega
  · omega
theorem GoodM.low {M : Pts} (h : GoodM M) (a v : Nat) : -1 ≤ distM M a v := (h.dist a).low v
theorem GoodM.symm {M : Pts} (h : GoodM M) (a b : Nat) : distM M a b = distM M b a := DistRow.symm h.lens (h.dist a) (h.dist b) h.sym
theorem GoodM.self {M : Pts} (h : GoodM M) (a : Nat) : distM M a a = 0 := (h.dist a).self
theorem GoodM.tri {M : Pts} (h : GoodM M) {a c v : Nat} (h1 : 0 ≤ distM M a c) (h2 : 0 ≤ distM M c v) : 0 ≤ distM M a v ∧ distM M a v ≤ distM M a c + distM M c v :=
  DistRow.tri h.lens (h.dist a) (h.dist c) h1 (distM M c v).toNat v h2 (by omega)
theorem GoodM.lt_of {M : Pts} (h : GoodM M) {a v : Nat} (ha : a < M.names.length) (h0 : 0 ≤ distM M a v) : v < M.names.length := by
  rcases (h.dist a).pred v h0 with rfl | ⟨u, l, he, _⟩
  · exact ha
  · exact (h.lt he).2
end Go.Proofs.YtdelkgfodeilkaaDoor
