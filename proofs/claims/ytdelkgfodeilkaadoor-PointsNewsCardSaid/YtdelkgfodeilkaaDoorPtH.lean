/-
  layer 36: what MinFunc and DeleteFunc leave of the open points. Conditions: none.
-/
import Derived.Test.YtdelkgfodeilkaaDoorPtF
import Derived.Test.YtdelkgfodeilkaaDoorPtQ
namespace Go.Proofs.YtdelkgfodeilkaaDoor
open Go.RowKit Go.Lib

/-! What the library's functions leave of a row of ours. -/
section
variable {α : Type} [Inhabited α]
theorem own_sortWorld (enc : α → Value) {W : World} {base o n c n' k : Nat} {e : TypeId} {xs : List Value} {ds : Array α} {os : Array Obj} (h : W.ownsRow base e 1 (.slice (some ⟨o, 0, none⟩) n c) n xs) (hds : ds.size = n) (hn : n' ≤ n) :
    (sortWorld enc W o 0 k ds os).ownsRow base e 1 (.slice (some ⟨o, 0, none⟩) n' c) n' ((ds.toList.take n').map enc) := by
  have hx := h.1
  rcases h.2 with ⟨h', _⟩ | ⟨g, cap, cur, h', hb, hg, r1, r2, r3, r4⟩
  · simp at h'
  simp only [Value.slice.injEq, Option.some.injEq, Addr.mk.injEq, and_true, true_and] at h'
  obtain ⟨rfl, rfl⟩ := h'
  have hlt : o < W.heap.size := (Array.getElem?_eq_some_iff.1 hg).1
  refine ⟨by simp; omega, .inr ⟨o, c, Go.Sort.putCells enc 0 ds cur, rfl, hb, ?_, by omega, r2, by simp [Go.Sort.putCells, r3], ?_⟩⟩
  · unfold sortWorld
    rw [Go.Sort.heap_grow_old _ _ (by simpa using hlt)]
    simp [Go.Sort.putRow, Go.Sort.mapBlock, Go.Sort.ahead, Array.getElem?_modify, hg, Go.Sort.onCells]
  · apply List.ext_getElem?
    intro i
    rw [List.getElem?_take, List.getElem?_map, List.getElem?_take]
    by_cases hi : i < n'
    · rw [if_pos (by omega), if_pos hi]
      have hic : i < cur.size := by omega
      simp [Go.Sort.putCells, hic, show i < ds.size by omega]
    · rw [if_neg (by omega), if_neg hi]; rfl
theorem below_sortWorld (enc : α → Value) {W : World} {base o k : Nat} {ds : Array α} {os : Array Obj} (ho : o < W.heap.size) (hb : base ≤ o) : Below base W (sortWorld enc W o 0 k ds os) where
  os := rfl
  tape := rfl
  output := rfl
  size := by unfold sortWorld; simp [Go.Sort.grow, Go.Sort.putRow, Go.Sort.mapBlock, Go.Sort.ahead]
  block b hb' := sortWorld_block enc W o 0 k ds os (by omega) (by omega)
end
theorem FromM.turn {w wr : World} {b q N o n c n' k : Nat} {r : Nat → Int} {op : List Nat} (h : FromM w wr b q N r op (.slice (some ⟨o, 0, none⟩) n c)) (hn : op.length = n) [Inhabited (Fin N)] {ds : Array (Fin N)} {os : Array Obj} (hds : ds.size = n) (hn' : n' ≤ n) :
    FromM w (sortWorld encP wr o 0 k ds os) b q N r ((ds.toList.take n').map Fin.val) (.slice (some ⟨o, 0, none⟩) n' c) := by
  have ho := h.opn.lt o rfl
  have hbo : b ≠ o := fun e => own_blk_ne h.opn h.box (by decide) (by simp [Value.ownBlock, e])
  have hqo : q ≠ o := fun e => own_blk_ne h.opn h.row (by decide) (by simp [Value.ownBlock, e])
  have hrow : wr.ownsRow w.heap.size 3 1 (.slice (some ⟨o, 0, none⟩) n c) n (nats op) := by have := h.opn; rwa [hn] at this
  refine ⟨(sortWorld_block _ _ _ _ _ _ _ h.box.lt hbo).trans h.box, (sortWorld_block _ _ _ _ _ _ _ h.row.lt hqo).trans h.row, ?_, fun x hx => ?_, h.below.trans (below_sortWorld _ ho.2 ho.1), h.hb, h.hq⟩
  · have := own_sortWorld (encP (N := N)) (k := k) (ds := ds) (os := os) hrow hds hn'
    rw [List.length_map, List.length_take, Array.length_toList, hds, Nat.min_eq_left hn']
    have e : (nats ((ds.toList.take n').map Fin.val)) = (ds.toList.take n').map encP := by unfold nats; rw [List.map_map]; rfl
    rw [e]; exact this
  · obtain ⟨y, _, rfl⟩ := List.mem_map.1 hx; exact y.isLt
/-- The open points as the library's contracts want them. -/
theorem FromM.holds {w wr : World} {b q N o n c : Nat} {r : Nat → Int} {op : List Nat} (h : FromM w wr b q N r op (.slice (some ⟨o, 0, none⟩) n c)) (hn : op.length = n) [Inhabited (Fin N)] {ds : Array (Fin N)} (hds : ds.toList.map Fin.val = op) :
    Go.Sort.Holds encP wr o 0 ds := by
  have hrow : wr.ownsRow w.heap.size 3 1 (.slice (some ⟨o, 0, none⟩) n c) n (nats op) := by have := h.opn; rwa [hn] at this
  intro j hj
  rw [Nat.zero_add]
  have hjl : j < ds.toList.length := by simpa using hj
  have hjn : j < n := by rw [← hn, ← hds]; simpa using hj
  refine ⟨?_, ?_⟩
  · rw [hrow.cellAt j (by omega), ← hds]
    unfold nats
    rw [List.map_map, List.getElem?_map, List.getElem?_eq_getElem hjl, getElem!_pos ds j hj]
    rfl
  · rcases hrow.2 with ⟨h', _⟩ | ⟨g, cap, cur, h', _, hg, _⟩
    · simp at h'
    simp only [Value.slice.injEq, Option.some.injEq, Addr.mk.injEq, and_true, true_and] at h'
    obtain ⟨rfl, rfl⟩ := h'
    simp [World.frozen?, hg]
theorem fins {N : Nat} {op : List Nat} (h : ∀ x ∈ op, x < N) : ∃ ds : Array (Fin N), ds.toList.map Fin.val = op ∧ ds.size = op.length :=
  ⟨(op.pmap Fin.mk h).toArray, by simp [List.map_pmap], by simp⟩
theorem pickBy_min {N : Nat} [Inhabited (Fin N)] (r : Nat → Int) (d : Array (Fin N)) : ∀ k, k < d.size → (Lib.pickBy (fun x m => decide (Lib.compareInt (r x.val) (r m.val) < 0)) d k) ∈ d.toList ∧ ∀ j, j ≤ k → r (Lib.pickBy (fun x m => decide (Lib.compareInt (r x.val) (r m.val) < 0)) d k).val ≤ r (d[j]!).val := by
  have hc : ∀ x y : Int, Lib.compareInt x y < 0 ↔ x < y := by intro x y; unfold Lib.compareInt; split <;> (try split) <;> omega
  intro k
  induction k with
  | zero =>
    intro hk
    refine ⟨?_, fun j hj => ?_⟩
    · unfold Lib.pickBy; rw [getElem!_pos d 0 hk]; simp
    · obtain rfl : j = 0 := by omega
      unfold Lib.pickBy; omega
  | succ k ih =>
    intro hk
    obtain ⟨i1, i2⟩ := ih (by omega)
    unfold Lib.pickBy
    by_cases h : r (d[k + 1]!).val < r (Lib.pickBy (fun x m => decide (Lib.compareInt (r x.val) (r m.val) < 0)) d k).val
    · rw [if_pos (decide_eq_true ((hc _ _).2 h))]
      refine ⟨by rw [getElem!_pos d (k + 1) hk]; simp, fun j hj => ?_⟩
      rcases Nat.lt_or_ge k j with h1 | h1
      · obtain rfl : j = k + 1 := by omega
        omega
      · have := i2 j h1; omega
    · rw [if_neg (by rw [decide_eq_true_iff, hc]; exact h)]
      refine ⟨i1, fun j hj => ?_⟩
      rcases Nat.lt_or_ge k j with h1 | h1
      · obtain rfl : j = k + 1 := by omega
        omega
      · exact i2 j h1
end Go.Proofs.YtdelkgfodeilkaaDoor
