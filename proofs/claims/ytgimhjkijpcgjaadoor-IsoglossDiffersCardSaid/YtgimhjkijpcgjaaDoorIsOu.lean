/-
  Arguments opened: uint32s, slices of uint32s. Conditions: none.
-/
import Derived.Test.YtgimhjkijpcgjaaDoorGaa
import Derived.Test.YtgimhjkijpcgjaaDoorIsLg
namespace Go.Proofs.YtgimhjkijpcgjaaDoor
open Go.ChangeShapes Go.WideShapes Go.ChangeAt Go.RowKit

theorem of_wf_u32 {z : Int} (h : (Lit.int .u32 z).wf = true) : 0 ≤ z ∧ z < 4294967296 := by
  simp only [Lit.wf, Bool.and_eq_true, decide_eq_true_eq] at h
  have h1 : IntKind.u32.min = 0 := rfl
  have h2 : IntKind.u32.max = 4294967295 := rfl
  rw [h1, h2] at h
  omega
section
variable {H : Type} {enc : TypeId × Value → H} {P : Program}
theorem open_w32 {t : TypeId} {W : World} {base b0 : Nat} {v : Value} {d : DataW H} {ps : List MemPlace} (ht : P.underlying t = some (.int .u32)) (hval : Value.okWide P W .any b0 t v) (h : DataW.Trod enc P W base (fun _ => true) true t v d ps) :
    ∃ x : UInt32, v = .int .u32 x.toNat := by
  obtain ⟨n, rfl, rfl, _, hw⟩ := open_int ht hval h
  have := of_wf_u32 hw
  refine ⟨UInt32.ofNat n.toNat, ?_⟩
  rw [UInt32.toNat_ofNat', Nat.mod_eq_of_lt (by omega)]
  congr 1; omega
theorem open_us {t e : TypeId} {W : World} {base : Nat} {v : Value} {d : DataW H} {ps : List MemPlace} (ht : P.underlying t = some (.slice e)) (he : P.underlying e = some (.int .u32)) (hc : P.cellsOf e = 1) (hval : Value.okWide P W .any base t v)
    (h : DataW.Trod enc P W 0 (fun _ => true) true t v d ps) :
    ∃ A n c us, v = .slice A n c ∧ ReadU W W.heap.size A n us ∧ n ≤ c ∧ c ≤ maxLen := by
  obtain ⟨A, n, c, rfl⟩ := okWide_slice ht hval
  obtain ⟨fuel, hf⟩ := h
  rcases open_ints ht he hc hf with ⟨hcs, hx⟩ | ⟨a, len, cap, zs, hcs, _, hl, hm, hlen, hx, hcell, hsz⟩
  · simp [Value.cells] at hcs
    obtain ⟨rfl, rfl, rfl⟩ := hcs
    exact ⟨none, 0, 0, [], rfl, Reads.none_, by omega, by unfold maxLen; omega⟩
  · simp [Value.cells] at hcs
    obtain ⟨rfl, rfl, rfl⟩ := hcs
    simp only [if_true] at hlen
    have hval2 : ∀ j (hj : j < n), W.cell? (a.add j) = some (.int .u32 ((UInt32.ofNat (zs.getD j 0).toNat).toNat : Nat)) := by
      intro j hj
      rw [hcell j (by omega)]
      have hmem : zs.getD j 0 ∈ zs := by
        rw [List.getD, List.getElem?_eq_getElem (show j < zs.length by omega)]; exact List.getElem_mem _
      have := of_wf_u32 (hsz _ hmem)
      rw [UInt32.toNat_ofNat', Nat.mod_eq_of_lt (by omega)]
      congr 2; omega
    refine ⟨some a, n, c, (zs.take n).map (fun z => UInt32.ofNat z.toNat), rfl, ⟨by simp; omega, fun hn => ⟨a, rfl, ?_, fun j u hu => ?_⟩⟩, hl, hm⟩
    · have := lt_cell (hval2 0 hn)
      rwa [block_of_add] at this
    · rw [List.map_map, List.getElem?_map] at hu
      obtain ⟨z, hz, rfl⟩ := Option.map_eq_some_iff.1 hu
      have hj : j < n := by have := (List.getElem?_eq_some_iff.1 hz).1; simp at this; omega
      rw [hval2 j hj]
      rw [List.getElem?_take, if_pos hj] at hz
      rw [List.getD, hz]; rfl
end
end Go.Proofs.YtgimhjkijpcgjaaDoor
