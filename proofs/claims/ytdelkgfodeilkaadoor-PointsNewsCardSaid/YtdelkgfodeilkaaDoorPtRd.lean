/-
  A remainder of a byte. Of no program. Conditions: none.
-/
import Derived.WalkKit
import Derived.Test.YtdelkgfodeilkaaDoorPtU
import Derived.Test.YtdelkgfodeilkaaDoorPtGv
namespace Go.Proofs.YtdelkgfodeilkaaDoor
open Go.RowKit

theorem mod_pick (x : UInt8) {n : Nat} (h : ¬ n = 0) : ∃ a : Nat, a < n ∧ (wrap64 (x.toNat : Int)).tmod (n : Int) = (a : Int) := by
  have hx := x.toNat_lt
  refine ⟨x.toNat % n, Nat.mod_lt _ (by omega), ?_⟩
  rw [show wrap64 (x.toNat : Int) = x.toNat by unfold wrap64; omega, Int.ofNat_tmod]
theorem add_nextP (a : Addr) (n j : Nat) : a.add (n + (j + 1)) = ⟨(a.add n).block, (a.add n).off + (j + 1), none⟩ := by
  unfold Addr.add
  by_cases h : n = 0
  · subst h; simp
  · simp [h, Nat.add_assoc]
theorem add_succP (a : Addr) (n : Nat) : a.add (n + 1) = ⟨a.block, a.off + (n + 1), none⟩ := by unfold Addr.add; simp
end Go.Proofs.YtdelkgfodeilkaaDoor
namespace Go.Proofs.YtdelkgfodeilkaaDoor
open Go.RowKit Go.Lib

/-- The three numbers of a road. -/
theorem road_cells {w wr : World} {B : Option Addr} {m j : Nat} {roads : List Rd} (hR : Reads w w.heap.size 3 B m (roads.flatMap roadV)) (hrl : roads.length = m) (hb : Below w.heap.size w wr) (hj : j < roads.length) :
    ∃ (bd : Addr) (x y l : Int), B = some bd ∧ roads[j] = (x, y, l) ∧ wr.cell? (bd.add (j * 3)) = some (.int .i64 x) ∧ wr.cell? ⟨(bd.add (j * 3)).block, (bd.add (j * 3)).off + 1, none⟩ = some (.int .i64 y) ∧
      wr.cell? ⟨(bd.add (j * 3)).block, (bd.add (j * 3)).off + 2, none⟩ = some (.int .i64 l) := by
  obtain ⟨bd, rfl, hbd', hcell⟩ := hR.2 (by omega)
  obtain ⟨x, y, l, ex⟩ : ∃ x y l, roads[j] = (x, y, l) := ⟨_, _, _, rfl⟩
  have hg0 := flatMap_get roadV 3 (fun _ => rfl) roads (j * 3) (by omega)
  have hg1 := flatMap_get roadV 3 (fun _ => rfl) roads (j * 3 + 1) (by omega)
  have hg2 := flatMap_get roadV 3 (fun _ => rfl) roads (j * 3 + 2) (by omega)
  rw [show j * 3 / 3 = j by omega, show j * 3 % 3 = 0 by omega, getElem!_pos roads j hj, ex] at hg0
  rw [show (j * 3 + 1) / 3 = j by omega, show (j * 3 + 1) % 3 = 1 by omega, getElem!_pos roads j hj, ex] at hg1
  rw [show (j * 3 + 2) / 3 = j by omega, show (j * 3 + 2) % 3 = 2 by omega, getElem!_pos roads j hj, ex] at hg2
  have hc0 := (hb.cell (p := bd.add (j * 3)) (by rw [block_of_add]; exact hbd')).trans (hcell _ _ hg0)
  have hc1 := (hb.cell (p := bd.add (j * 3 + 1)) (by rw [block_of_add]; exact hbd')).trans (hcell _ _ hg1)
  have hc2 := (hb.cell (p := bd.add (j * 3 + 2)) (by rw [block_of_add]; exact hbd')).trans (hcell _ _ hg2)
  simp only [roadV, List.getElem!_cons_zero, List.getElem!_cons_succ] at hc0 hc1 hc2
  rw [add_nextP bd (j * 3) 0] at hc1
  rw [add_nextP bd (j * 3) 1] at hc2
  exact ⟨bd, x, y, l, rfl, ex, hc0, hc1, hc2⟩
/-- The points of a way as they lie in memory. -/
theorem way_cell {w wr : World} {base q c : Nat} {P : List Nat} (h : w.ownsRow base 3 1 (.slice (some ⟨q, 0, none⟩) P.length c) P.length ((P.map fun (x : Nat) => (x : Int)).map (Value.int .i64))) (hb : Below w.heap.size w wr) {i : Nat} (hi : i < P.length) :
    wr.cell? ⟨q, i, none⟩ = some (.int .i64 ((P[i] : Nat) : Int)) := by
  have hlt : q < w.heap.size := by
    rcases h.2 with ⟨h', hn⟩ | ⟨q', cap, cur, h', hb', hg, _⟩
    · omega
    · simp only [Value.slice.injEq, true_and] at h'
      obtain ⟨h1, _⟩ := h'
      simp only [Option.some.injEq, Addr.mk.injEq] at h1
      rw [h1.1]
      exact (Array.getElem?_eq_some_iff.1 hg).1
  rw [hb.cell (p := ⟨q, i, none⟩) hlt, h.cellAt i (by omega)]
  simp [hi]
/-- The numbers of what is near, as they lie in memory. -/
theorem edge_near {M : Pts} {a : Nat} (ha : a < M.n) {k : Nat} (hk : k < (nearL (some M) a).length) : ∃ (v : Nat) (l : Int), (nearL (some M) a)[k] = (v : Int) ∧ edgeOf M a v l ∧ (v, l) ∈ M.near.getD a [] := by
  have e := nearL_in ha
  have hm : (nearL (some M) a)[k] ∈ nearL (some M) a := List.getElem_mem hk
  generalize (nearL (some M) a)[k] = x at hm
  rw [e] at hm
  obtain ⟨⟨v, l⟩, hv, rfl⟩ := List.mem_map.1 hm
  refine ⟨v, l, rfl, ?_, hv⟩
  rw [List.getD_eq_getElem?_getD] at hv
  cases hq : M.near[a]? with
  | none => rw [hq] at hv; cases hv
  | some r =>
    rw [hq] at hv
    obtain ⟨h1, h2⟩ := List.getElem?_eq_some_iff.1 hq
    exact ⟨h1, by rw [h2]; exact hv⟩
/-- A way, by its places. -/
structure WayPt (M : Pts) (a b len : Nat) (pt : Nat → Nat) : Prop where
  pos : 0 < len
  few : len ≤ M.n
  first : pt 0 = a
  last : pt (len - 1) = b
  all : ∀ t, t < len → pt t < M.n ∧ 0 ≤ distM M (pt t) b
  step : ∀ t, t + 1 < len → ∃ l, edgeOf M (pt t) (pt (t + 1)) l ∧ 1 ≤ l ∧ distM M (pt (t + 1)) b + l = distM M (pt t) b ∧ ∀ e ∈ M.near.getD (pt t) [], e.1 < pt (t + 1) → distM M e.1 b + e.2 ≠ distM M (pt t) b
theorem getD_at {P : List Nat} {t : Nat} (h : t < P.length) : P.getD t 0 = P[t] := by rw [List.getD_eq_getElem?_getD, List.getElem?_eq_getElem h]; rfl
theorem WayOk.pts {M : Pts} {a b : Nat} {P : List Nat} (h : WayOk M a b P) : WayPt M a b P.length (fun t => P.getD t 0) := by
  refine ⟨h.pos, h.few, ?_, ?_, fun t ht => ?_, fun t ht => ?_⟩
  · show P.getD 0 0 = a
    rw [List.getD_eq_getElem?_getD, h.first]; rfl
  · show P.getD (P.length - 1) 0 = b
    rw [List.getD_eq_getElem?_getD, h.last]; rfl
  · show P.getD t 0 < M.n ∧ 0 ≤ distM M (P.getD t 0) b
    rw [getD_at ht]
    exact h.all _ (List.getElem_mem ht)
  · have := h.step t ht
    show ∃ l, edgeOf M (P.getD t 0) (P.getD (t + 1) 0) l ∧ 1 ≤ l ∧ distM M (P.getD (t + 1) 0) b + l = distM M (P.getD t 0) b ∧ ∀ e ∈ M.near.getD (P.getD t 0) [], e.1 < P.getD (t + 1) 0 → distM M e.1 b + e.2 ≠ distM M (P.getD t 0) b
    rw [getD_at ht, getD_at (show t < P.length by omega)]
    exact this
theorem way_none {M : Pts} (hM : GoodM M) {a b : Nat} (h : ¬ 0 ≤ distM M a b) : wayO (some M) a b = [] := by
  show wayS M a b = []
  unfold wayS
  split
  · unfold wayL
    rw [Int.toNat_natCast, Int.toNat_natCast, if_neg (by rw [hM.symm]; exact h)]; rfl
  · rfl
end Go.Proofs.YtdelkgfodeilkaaDoor
