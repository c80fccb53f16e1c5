/-
  Arguments opened: slices of ints, slices of slices of ints. Conditions: none.
-/
import Derived.Test.YtgimhjkijpcgjaaDoorGaa
import Derived.Test.YtgimhjkijpcgjaaDoorGan
import Derived.Deep.Matrix
namespace Go.Proofs.YtgimhjkijpcgjaaDoor
open Go.ChangeShapes Go.WideShapes Go.ChangeAt Go.RowKit

section
variable {H : Type} {enc : TypeId × Value → H} {P : Program}
theorem open_is {t e : TypeId} {W : World} {base : Nat} {v : Value} {d : DataW H} {ps : List MemPlace} (ht : P.underlying t = some (.slice e)) (he : P.underlying e = some (.int .i64)) (hc : P.cellsOf e = 1) (hval : Value.okWide P W .any base t v)
    (h : DataW.Trod enc P W 0 (fun _ => true) true t v d ps) :
    ∃ A n c xs, v = .slice A n c ∧ ReadI W W.heap.size A n xs ∧ (∀ x ∈ xs, okI x) ∧ n ≤ c ∧ c ≤ maxLen := by
  obtain ⟨A, n, c, rfl⟩ := okWide_slice ht hval
  obtain ⟨fuel, hf⟩ := h
  rcases open_ints ht he hc hf with ⟨hcs, hx⟩ | ⟨a, len, cap, zs, hcs, _, hl, hm, hlen, hx, hcell, hsz⟩
  · simp [Value.cells] at hcs
    obtain ⟨rfl, rfl, rfl⟩ := hcs
    exact ⟨none, 0, 0, [], rfl, Reads.none_, by simp, by omega, by unfold maxLen; omega⟩
  · simp [Value.cells] at hcs
    obtain ⟨rfl, rfl, rfl⟩ := hcs
    simp only [if_true] at hlen
    refine ⟨some a, n, c, zs.take n, rfl, ⟨by simp; omega, fun hn => ⟨a, rfl, ?_, fun j u hu => ?_⟩⟩, fun x hx => hsz x (List.mem_of_mem_take hx), hl, hm⟩
    · have := lt_cell (hcell 0 (by omega))
      rwa [block_of_add] at this
    · rw [List.getElem?_map] at hu
      obtain ⟨z, hz, rfl⟩ := Option.map_eq_some_iff.1 hu
      have hj : j < n := by have := (List.getElem?_eq_some_iff.1 hz).1; simp at this; omega
      rw [hcell j (by omega)]
      rw [List.getElem?_take, if_pos hj] at hz
      rw [List.getD, hz]; rfl
theorem open_iis {t e q : TypeId} {W : World} {base : Nat} {v : Value} {d : DataW H} {ps : List MemPlace} (ht : P.underlying t = some (.slice e)) (he : P.underlying e = some (.slice q)) (hq : P.underlying q = some (.int .i64)) (ce : P.cellsOf e = 1) (cq : P.cellsOf q = 1) (hval : Value.okWide P W .any base t v)
    (h : DataW.Trod enc P W 0 (fun _ => true) true t v d ps) :
    ∃ A n c gs, v = .slice A n c ∧ ReadII W W.heap.size A n gs ∧ n ≤ c ∧ c ≤ maxLen := by
  obtain ⟨A, n, c, rfl⟩ := okWide_slice ht hval
  obtain ⟨fuel, hf⟩ := h
  rcases Go.Deep.open_int_rows ht he hq ce cq hf with ⟨hcs, hx⟩ | ⟨a, len, cap, R, L, C, Z, hcs, _, hl, hm, hx, hcell⟩
  · simp [Value.cells] at hcs
    obtain ⟨rfl, rfl, rfl⟩ := hcs
    exact ⟨none, 0, 0, [], rfl, ⟨rfl, fun k hk => absurd hk (by simp)⟩, by omega, by unfold maxLen; omega⟩
  · simp [Value.cells] at hcs
    obtain ⟨rfl, rfl, rfl⟩ := hcs
    refine ⟨some a, n, c, (List.range n).map fun r => (Z r).take (L r), rfl, ⟨by simp, fun k hk => ?_⟩, hl, hm⟩
    have hk' : k < n := by simpa using hk
    obtain ⟨r1, r2, r3, r4, r5, r6, r7⟩ := hcell k (by omega)
    have hlen : ((Z k).take (L k)).length = L k := by simp; omega
    rw [show ((List.range n).map fun r => (Z r).take (L r))[k] = (Z k).take (L k) by simp, hlen]
    refine ⟨a, R k, C k, rfl, r1, lt_cell r1, ⟨by simp; omega, fun h0 => ?_⟩, r2, r3⟩
    cases hR : R k with
    | none => have := r6 hR; omega
    | some a' =>
      obtain ⟨_, h8⟩ := r7 a' hR
      refine ⟨a', rfl, ?_, fun j u hu => ?_⟩
      · have := lt_cell (h8 0 (by omega)); rwa [block_of_add] at this
      · rw [List.getElem?_map] at hu
        obtain ⟨z, hz, rfl⟩ := Option.map_eq_some_iff.1 hu
        have hj : j < L k := by have := (List.getElem?_eq_some_iff.1 hz).1; simp at this; omega
        rw [h8 j (by omega)]
        rw [List.getElem?_take, if_pos hj] at hz
        rw [List.getD, hz]; rfl
end
end Go.Proofs.YtgimhjkijpcgjaaDoor
