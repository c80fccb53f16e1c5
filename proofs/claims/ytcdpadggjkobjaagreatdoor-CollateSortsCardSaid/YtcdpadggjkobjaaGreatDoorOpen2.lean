/-
  Arguments opened: rows of rows of bytes. Conditions: none.
-/
import Derived.Test.YtcdpadggjkobjaaGreatDoorOpen
import Derived.Deep.Matrix
namespace Go.Proofs.YtcdpadggjkobjaaGreatDoor
open Go.ChangeShapes Go.WideShapes Go.ChangeAt Go.RowKit

/-- A slice of slices of bytes, read. -/
def ReadBB (w : World) (B : Nat) (A : Option Addr) (n : Nat) (gs : List (List UInt8)) : Prop :=
  gs.length = n ∧ ∀ (k : Nat) (hk : k < gs.length), ∃ ad A' c', A = some ad ∧ w.cell? (ad.add k) = some (.slice A' gs[k].length c') ∧ (ad.add k).block < B ∧ ReadB w B A' gs[k].length gs[k] ∧ gs[k].length ≤ c' ∧ c' ≤ maxLen
theorem ReadBB.below {w w' : World} {B n : Nat} {A : Option Addr} {gs : List (List UInt8)} (h : ReadBB w B A n gs) (hb : Below B w w') : ReadBB w' B A n gs :=
  ⟨h.1, fun k hk => by
    obtain ⟨ad, A', c', h1, h2, h3, h4, h5⟩ := h.2 k hk
    exact ⟨ad, A', c', h1, (hb.cell h3).trans h2, h3, Reads.below h4 hb, h5⟩⟩
theorem ReadBB.more {w : World} {B B' n : Nat} {A : Option Addr} {gs : List (List UInt8)} (h : ReadBB w B A n gs) (hb : B ≤ B') : ReadBB w B' A n gs :=
  ⟨h.1, fun k hk => by
    obtain ⟨ad, A', c', h1, h2, h3, h4, h5⟩ := h.2 k hk
    exact ⟨ad, A', c', h1, h2, Nat.lt_of_lt_of_le h3 hb, Reads.more h4 hb, h5⟩⟩
section
variable {H : Type} {enc : TypeId × Value → H} {P : Program}
def bytesOf (L : Nat) (Z : List Int) : List UInt8 := (Z.take L).map fun z => UInt8.ofNat z.toNat
theorem bytesOf_len {L : Nat} {Z : List Int} (h : L ≤ Z.length) : (bytesOf L Z).length = L := by simp [bytesOf]; omega
theorem bytesOf_get {L : Nat} {Z : List Int} (hw : ∀ n ∈ Z, (Lit.int .u8 n).wf = true) {j : Nat} (hj : j < L) (hl : L ≤ Z.length) {u : Value} (hu : ((bytesOf L Z).map fun b => Value.int .u8 b.toNat)[j]? = some u) : u = .int .u8 (Z.getD j 0) := by
  unfold bytesOf at hu
  rw [List.map_map, List.getElem?_map, List.getElem?_take, if_pos hj, List.getElem?_eq_getElem (by omega)] at hu
  simp only [Option.map_some, Option.some.injEq, Function.comp] at hu
  subst hu
  have hz := of_wf_u8 (hw _ (List.getElem_mem (show j < Z.length by omega)))
  rw [List.getD, List.getElem?_eq_getElem (by omega), UInt8.toNat_ofNat', Nat.mod_eq_of_lt (by omega)]
  simp only [Option.getD_some]
  congr 1; omega
theorem open_bss {t e q : TypeId} {W : World} {base : Nat} {v : Value} {d : DataW H} {ps : List MemPlace} (ht : P.underlying t = some (.slice e)) (he : P.underlying e = some (.slice q)) (hq : P.underlying q = some (.int .u8)) (ce : P.cellsOf e = 1) (cq : P.cellsOf q = 1) (hval : Value.okWide P W .any base t v)
    (h : DataW.Trod enc P W 0 (fun _ => true) true t v d ps) :
    ∃ A n c gs, v = .slice A n c ∧ ReadBB W W.heap.size A n gs ∧ n ≤ c ∧ c ≤ maxLen := by
  obtain ⟨A, n, c, rfl⟩ := okWide_slice ht hval
  obtain ⟨fuel, hf⟩ := h
  rcases Go.Deep.open_int_rows ht he hq ce cq hf with ⟨hcs, hx⟩ | ⟨a, len, cap, R, L, C, Z, hcs, _, hl, hm, hx, hcell⟩
  · simp [Value.cells] at hcs
    obtain ⟨rfl, rfl, rfl⟩ := hcs
    exact ⟨none, 0, 0, [], rfl, ⟨rfl, fun k hk => absurd hk (by simp)⟩, by omega, by unfold maxLen; omega⟩
  · simp [Value.cells] at hcs
    obtain ⟨rfl, rfl, rfl⟩ := hcs
    refine ⟨some a, n, c, (List.range n).map fun r => bytesOf (L r) (Z r), rfl, ⟨by simp, fun k hk => ?_⟩, hl, hm⟩
    have hk' : k < n := by simpa using hk
    obtain ⟨r1, r2, r3, r4, r5, r6, r7⟩ := hcell k (by omega)
    have hlen : (bytesOf (L k) (Z k)).length = L k := bytesOf_len (by omega)
    rw [show ((List.range n).map fun r => bytesOf (L r) (Z r))[k] = bytesOf (L k) (Z k) by simp, hlen]
    refine ⟨a, R k, C k, rfl, r1, lt_cell r1, ⟨by simp [hlen], fun h0 => ?_⟩, r2, r3⟩
    cases hR : R k with
    | none => have := r6 hR; omega
    | some a' =>
      obtain ⟨_, h8⟩ := r7 a' hR
      refine ⟨a', rfl, ?_, fun j u hu => ?_⟩
      · have := lt_cell (h8 0 (by omega)); rwa [block_of_add] at this
      · have hj : j < L k := by
          have := (List.getElem?_eq_some_iff.1 hu).1
          simpa [hlen] using this
        rw [bytesOf_get r5 hj (by omega) hu]
        exact h8 j (by omega)
end
end Go.Proofs.YtcdpadggjkobjaaGreatDoor
