/-
  Arguments opened: bytes, rows of bytes, small integers. Conditions: none.
-/
import Derived.Test.YtgkpoopiamicnaaGreatDoorZbFrame
namespace Go.Proofs.YtgkpoopiamicnaaGreatDoor
open Go.ChangeShapes Go.WideShapes Go.ChangeAt Go.RowKit

/-- A slice of bytes, read. -/
def ReadB (w : World) (B : Nat) (A : Option Addr) (n : Nat) (xs : List UInt8) : Prop := Reads w B 1 A n (xs.map fun b => Value.int .u8 b.toNat)
theorem ReadB.len {w : World} {B n : Nat} {A : Option Addr} {xs : List UInt8} (h : ReadB w B A n xs) : xs.length = n := by
  have := h.1; simpa using this
theorem ReadB.at_ {w : World} {B n k : Nat} {A : Option Addr} {xs : List UInt8} (h : ReadB w B A n xs) (hk : k < xs.length) :
    ∃ ad, A = some ad ∧ ad.block < B ∧ w.cell? (ad.add k) = some (.int .u8 xs[k].toNat) := by
  obtain ⟨ad, u, h1, h2, h3, h4⟩ := Reads.at_ (k := k) h (by have := h.len; omega)
  rw [List.getElem?_map, List.getElem?_eq_getElem hk] at h3
  simp only [Option.map_some, Option.some.injEq] at h3
  subst h3
  exact ⟨ad, h1, h2, h4⟩
section
variable {H : Type} {enc : TypeId × Value → H} {P : Program}
theorem of_wf_u8 {z : Int} (h : (Lit.int .u8 z).wf = true) : 0 ≤ z ∧ z < 256 := by
  simp only [Lit.wf, Bool.and_eq_true, decide_eq_true_eq] at h
  have h1 : IntKind.u8.min = 0 := rfl
  have h2 : IntKind.u8.max = 255 := rfl
  rw [h1, h2] at h; omega
theorem open_u8 {t : TypeId} {W : World} {base b0 : Nat} {v : Value} {d : DataW H} {ps : List MemPlace} (ht : P.underlying t = some (.int .u8)) (hval : Value.okWide P W .any b0 t v) (h : DataW.Trod enc P W base (fun _ => true) true t v d ps) :
    ∃ x : UInt8, v = .int .u8 x.toNat := by
  obtain ⟨n, rfl, rfl, _, hw⟩ := open_int ht hval h
  have := of_wf_u8 hw
  refine ⟨UInt8.ofNat n.toNat, ?_⟩
  rw [UInt8.toNat_ofNat', Nat.mod_eq_of_lt (by omega)]
  congr 1; omega
theorem of_wf_u64 {z : Int} (h : (Lit.int .u64 z).wf = true) : 0 ≤ z ∧ z < 18446744073709551616 := by
  simp only [Lit.wf, Bool.and_eq_true, decide_eq_true_eq] at h
  have h1 : IntKind.u64.min = 0 := rfl
  have h2 : IntKind.u64.max = 18446744073709551615 := rfl
  rw [h1, h2] at h; omega
theorem open_u64 {t : TypeId} {W : World} {base b0 : Nat} {v : Value} {d : DataW H} {ps : List MemPlace} (ht : P.underlying t = some (.int .u64)) (hval : Value.okWide P W .any b0 t v) (h : DataW.Trod enc P W base (fun _ => true) true t v d ps) :
    ∃ x : UInt64, v = .int .u64 x.toNat := by
  obtain ⟨n, rfl, rfl, _, hw⟩ := open_int ht hval h
  have := of_wf_u64 hw
  refine ⟨UInt64.ofNat n.toNat, ?_⟩
  rw [UInt64.toNat_ofNat', Nat.mod_eq_of_lt (by omega)]
  congr 1; omega
theorem open_bs {t e : TypeId} {W : World} {base : Nat} {v : Value} {d : DataW H} {ps : List MemPlace} (ht : P.underlying t = some (.slice e)) (he : P.underlying e = some (.int .u8)) (hc : P.cellsOf e = 1) (hval : Value.okWide P W .any base t v)
    (h : DataW.Trod enc P W 0 (fun _ => true) true t v d ps) :
    ∃ A n c xs, v = .slice A n c ∧ ReadB W W.heap.size A n xs ∧ n ≤ c ∧ c ≤ maxLen := by
  obtain ⟨A, n, c, rfl⟩ := okWide_slice ht hval
  obtain ⟨fuel, hf⟩ := h
  rcases open_ints ht he hc hf with ⟨hcs, hx⟩ | ⟨a, len, cap, zs, hcs, _, hl, hm, hlen, hx, hcell, hsz⟩
  · simp [Value.cells] at hcs
    obtain ⟨rfl, rfl, rfl⟩ := hcs
    exact ⟨none, 0, 0, [], rfl, Reads.none_, by omega, by unfold maxLen; omega⟩
  · simp [Value.cells] at hcs
    obtain ⟨rfl, rfl, rfl⟩ := hcs
    simp only [if_true] at hlen
    have hval2 : ∀ j (hj : j < n), W.cell? (a.add j) = some (.int .u8 ((UInt8.ofNat (zs.getD j 0).toNat).toNat : Nat)) := by
      intro j hj
      rw [hcell j (by omega)]
      have hmem : zs.getD j 0 ∈ zs := by
        rw [List.getD, List.getElem?_eq_getElem (show j < zs.length by omega)]; exact List.getElem_mem _
      have := of_wf_u8 (hsz _ hmem)
      rw [UInt8.toNat_ofNat', Nat.mod_eq_of_lt (by omega)]
      congr 2; omega
    refine ⟨some a, n, c, (zs.take n).map (fun z => UInt8.ofNat z.toNat), rfl, ⟨by simp; omega, fun hn => ⟨a, rfl, ?_, fun j u hu => ?_⟩⟩, hl, hm⟩
    · have := lt_cell (hval2 0 hn)
      rwa [block_of_add] at this
    · rw [List.map_map, List.getElem?_map] at hu
      obtain ⟨z, hz, rfl⟩ := Option.map_eq_some_iff.1 hu
      have hj : j < n := by have := (List.getElem?_eq_some_iff.1 hz).1; simp at this; omega
      rw [hval2 j hj]
      rw [List.getElem?_take, if_pos hj] at hz
      rw [List.getD, hz]; rfl
end
end Go.Proofs.YtgkpoopiamicnaaGreatDoor
