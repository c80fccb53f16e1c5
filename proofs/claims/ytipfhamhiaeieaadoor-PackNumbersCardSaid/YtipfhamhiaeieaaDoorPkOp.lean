/-
  Arguments opened: words (slices of sounds). Conditions: none.
-/
import Derived.Test.YtipfhamhiaeieaaDoorOpen
import Derived.Test.YtipfhamhiaeieaaDoorFlat
import Derived.Test.YtipfhamhiaeieaaDoorPkWn
import Derived.Deep.Slices
import Derived.Deep.Fields
import Derived.Lib.SmallJoins
namespace Go.Proofs.YtipfhamhiaeieaaDoor
open Go.ChangeShapes Go.WideShapes Go.ChangeAt Go.RowKit

theorem u32_of_wf {x : Int} (h : (Lit.int .u32 x).wf = true) : ∃ n : Nat, x = n ∧ is32 n := by
  simp only [Lit.wf, Bool.and_eq_true, decide_eq_true_eq] at h
  have h1 : IntKind.u32.min = 0 := rfl
  have h2 : IntKind.u32.max = 4294967295 := rfl
  rw [h1, h2] at h
  exact ⟨x.toNat, by omega, by unfold is32; omega⟩
section
variable {H : Type} {enc : TypeId × Value → H} {P : Program}
theorem open_rows2 {t e : TypeId} {f0 f1 : Field} (ht : P.underlying t = some (.slice e)) (he : P.underlying e = some (.struct #[f0, f1])) (hone : Go.Deep.oneCellFields P #[f0, f1] = true) (ce : P.cellsOf e = 2)
    (u0 : P.underlying f0.type = some (.int .u32)) (u1 : P.underlying f1.type = some (.int .u32)) {W : World} {fuel : Nat} {cs : List Value} {x : DataW H × List MemPlace}
    (h : DataW.trod enc P W 0 (fun _ => true) true fuel t cs = some x) :
    ∃ A n c, ∃ rs : List Snd, cs = [.slice A n c] ∧ Reads W W.heap.size 2 A n (rs.flatMap sndC) ∧ (∀ s ∈ rs, ok32 s) ∧ n ≤ c ∧ c ≤ maxLen := by
  rcases Go.Deep.open_slice ht h with ⟨rfl, _⟩ | ⟨a, len, cap, m, n, D, Pl, rfl, hb, hl, hm, hmm, rfl, hx⟩
  · exact ⟨none, 0, 0, [], rfl, Reads.none_, (fun s hs => by cases hs), by omega, by unfold maxLen; omega⟩
  · simp only [if_true] at hmm
    subst hmm
    obtain ⟨o0, c0⟩ := Go.Deep.hone_of hone 0 f0 rfl
    obtain ⟨o1, c1⟩ := Go.Deep.hone_of hone 1 f1 rfl
    have each : ∀ i, i < m → ∃ q : Snd, ok32 q ∧ ∀ j u, (sndC q)[j]? = some u → W.cell? (a.add (i * 2 + j)) = some u := by
      intro i hi
      obtain ⟨cs', h1, h2⟩ := hx i hi
      rw [ce] at h1
      obtain ⟨_, hlen, hcell⟩ := World.cells?_some h1
      obtain ⟨xs, k, hk, hxy, _, hxl, hf⟩ := DataW.trod_struct he h2
      match xs, hxl, cs', hlen with
      | [y0, y1], _, [w0, w1], _ =>
        have g0 := hf 0 f0 rfl
        have g1 := hf 1 f1 rfl
        simp [o0, o1, c0, c1] at g0 g1
        obtain ⟨z0, e0, WF0⟩ := DataW.trod_int u0 g0
        obtain ⟨z1, e1, WF1⟩ := DataW.trod_int u1 g1
        have k0 := hcell 0 (by omega)
        have k1 := hcell 1 (by omega)
        rw [Go.Deep.add_add] at k0 k1
        simp only [List.cons.injEq, and_true] at e0 e1
        subst e0 e1
        obtain ⟨m0, rfl, l0⟩ := u32_of_wf WF0.2
        obtain ⟨m1, rfl, l1⟩ := u32_of_wf WF1.2
        refine ⟨(m0, m1), ⟨l0, l1⟩, fun j u hu => ?_⟩
        unfold sndC at hu
        match j, hu with
        | 0, hu => simp at hu k0; rw [← hu]; exact k0
        | 1, hu => simp at hu k1; rw [← hu]; exact k1
        | j + 2, hu => simp at hu
    obtain ⟨q, hq⟩ := Go.Deep.choose_lt each
    refine ⟨some a, len, m, (List.range len).map q, rfl, ⟨?_, fun hn => ⟨a, rfl, ?_, fun j u hu => ?_⟩⟩, fun s hs => ?_, hl, hm⟩
    · rw [flatMap_len sndC 2 (fun _ => rfl)]; simp
    · have := lt_cell ((hq 0 (by omega)).2 0 _ rfl)
      rwa [block_of_add] at this
    · have hj : j < len * 2 := by
        have := (List.getElem?_eq_some_iff.1 hu).1
        rw [flatMap_len sndC 2 (fun _ => rfl)] at this; simpa using this
      rw [flatMap_get sndC 2 (fun _ => rfl) _ j (by simpa using hj)] at hu
      have hd : j / 2 < len := by omega
      have := (hq (j / 2) (by omega)).2 (j % 2) u (by
        rw [← hu, getElem!_pos (sndC _) (j % 2) (show j % 2 < (sndC _).length from Nat.mod_lt _ (by decide)), getElem!_pos ((List.range len).map q) (j / 2) (by simpa using hd), ← List.getElem?_eq_getElem]
        simp)
      rwa [show j / 2 * 2 + j % 2 = j by omega] at this
    · obtain ⟨i, hi, rfl⟩ := List.mem_map.1 hs
      exact (hq i (by have := List.mem_range.1 hi; omega)).1
theorem open_word {t e : TypeId} {f0 f1 : Field} {W : World} {base : Nat} {v : Value} {d : DataW H} {ps : List MemPlace} (ht : P.underlying t = some (.slice e)) (he : P.underlying e = some (.struct #[f0, f1])) (hone : Go.Deep.oneCellFields P #[f0, f1] = true) (ce : P.cellsOf e = 2)
    (u0 : P.underlying f0.type = some (.int .u32)) (u1 : P.underlying f1.type = some (.int .u32)) (hval : Value.okWide P W .any base t v)
    (h : DataW.Trod enc P W 0 (fun _ => true) true t v d ps) :
    ∃ A n c, ∃ rs : List Snd, v = .slice A n c ∧ Reads W W.heap.size 2 A n (rs.flatMap sndC) ∧ (∀ s ∈ rs, ok32 s) ∧ n ≤ c ∧ c ≤ maxLen := by
  obtain ⟨A, n, c, rfl⟩ := okWide_slice ht hval
  obtain ⟨fuel, hf⟩ := h
  obtain ⟨A', n', c', rs, e1, h1, h2, h3⟩ := open_rows2 ht he hone ce u0 u1 hf
  simp [Value.cells] at e1
  obtain ⟨rfl, rfl, rfl⟩ := e1
  exact ⟨A, n, c, rs, rfl, h1, h2, h3⟩
theorem u16_of_wf {x : Int} (h : (Lit.int .u16 x).wf = true) : ∃ n : Nat, x = n ∧ n < 65536 := by
  simp only [Lit.wf, Bool.and_eq_true, decide_eq_true_eq] at h
  have h1 : IntKind.u16.min = 0 := rfl
  have h2 : IntKind.u16.max = 65535 := rfl
  rw [h1, h2] at h
  exact ⟨x.toNat, by omega, by omega⟩
theorem open_u32 {t : TypeId} {W : World} {base b0 : Nat} {v : Value} {d : DataW H} {ps : List MemPlace} (ht : P.underlying t = some (.int .u32)) (hval : Value.okWide P W .any b0 t v) (h : DataW.Trod enc P W base (fun _ => true) true t v d ps) :
    ∃ x : Nat, v = .int .u32 x ∧ is32 x := by
  obtain ⟨n, rfl, rfl, _, hw⟩ := open_int ht hval h
  obtain ⟨m, rfl, hm⟩ := u32_of_wf hw
  exact ⟨m, rfl, hm⟩
theorem open_u16 {t : TypeId} {W : World} {base b0 : Nat} {v : Value} {d : DataW H} {ps : List MemPlace} (ht : P.underlying t = some (.int .u16)) (hval : Value.okWide P W .any b0 t v) (h : DataW.Trod enc P W base (fun _ => true) true t v d ps) :
    ∃ x : Nat, v = .int .u16 x ∧ x < 65536 := by
  obtain ⟨n, rfl, rfl, _, hw⟩ := open_int ht hval h
  obtain ⟨m, rfl, hm⟩ := u16_of_wf hw
  exact ⟨m, rfl, hm⟩
end
end Go.Proofs.YtipfhamhiaeieaaDoor
