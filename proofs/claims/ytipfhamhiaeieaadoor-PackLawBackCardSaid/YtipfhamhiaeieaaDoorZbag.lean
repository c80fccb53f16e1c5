/-
  Arguments opened: patterns and laws. Conditions: none.
-/
import Derived.Test.YtipfhamhiaeieaaDoorZbac
import Derived.Test.YtipfhamhiaeieaaDoorZbPkLx
import Derived.Test.YtipfhamhiaeieaaDoorZbae
import Derived.WalkSmall
namespace Go.Proofs.YtipfhamhiaeieaaDoor
open Go.ChangeShapes Go.WideShapes Go.ChangeAt Go.RowKit

section
variable {H : Type} {enc : TypeId × Value → H} {P : Program} {W : World}
def SndTy (P : Program) (t : TypeId) : Prop := ∃ g0 g1 : Field, P.underlying t = some (.struct #[g0, g1]) ∧ (g0.offset = 0 ∧ g1.offset = 1) ∧ (P.cellsOf g0.type = 1 ∧ P.cellsOf g1.type = 1 ∧ P.cellsOf t = 2) ∧ P.underlying g0.type = some (.int .u32) ∧ P.underlying g1.type = some (.int .u32)
theorem open_snd_t {t : TypeId} (T : SndTy P t) {fuel : Nat} {cs : List Value} {y : DataW H × List MemPlace} (h : DataW.trod enc P W 0 (fun _ => true) true fuel t cs = some y) : ∃ s : Snd, cs = sndC s ∧ ok32 s := by
  obtain ⟨g0, g1, hu, ⟨o0, o1⟩, ⟨c0, c1, c2⟩, u0, u1⟩ := T
  obtain ⟨xs, n, _, _, hl, hlen, hf⟩ := DataW.trod_struct hu h
  rw [c2] at hl
  match xs, hlen, cs, hl with
  | [y0, y1], _, [v0, v1], _ =>
    have k0 := hf 0 g0 rfl
    have k1 := hf 1 g1 rfl
    simp [o0, o1, c0, c1] at k0 k1
    obtain ⟨z0, e0, _, w0⟩ := DataW.trod_int u0 k0
    obtain ⟨z1, e1, _, w1⟩ := DataW.trod_int u1 k1
    simp only [List.cons.injEq, and_true] at e0 e1
    subst e0 e1
    obtain ⟨m0, rfl, l0⟩ := u32_of_wf w0
    obtain ⟨m1, rfl, l1⟩ := u32_of_wf w1
    exact ⟨(m0, m1), rfl, l0, l1⟩
def PatTy (P : Program) (t : TypeId) : Prop := ∃ f0 f1 f2 f3 f4 f5 : Field, P.underlying t = some (.struct #[f0, f1, f2, f3, f4, f5]) ∧ (f0.offset = 0 ∧ f1.offset = 1 ∧ f2.offset = 3 ∧ f3.offset = 4 ∧ f4.offset = 5 ∧ f5.offset = 6) ∧
  (P.cellsOf f0.type = 1 ∧ P.cellsOf f1.type = 2 ∧ P.cellsOf f2.type = 1 ∧ P.cellsOf f3.type = 1 ∧ P.cellsOf f4.type = 1 ∧ P.cellsOf f5.type = 1 ∧ P.cellsOf t = 7) ∧
  P.underlying f0.type = some (.int .i64) ∧ SndTy P f1.type ∧ P.underlying f2.type = some .bool ∧ P.underlying f3.type = some (.int .i64) ∧ P.underlying f4.type = some (.int .i64) ∧ P.underlying f5.type = some (.slice t)
theorem patsC_of {w : World} {B : Nat} (q : Nat → Pt) (z : Nat → List Value) : ∀ L : List Nat, (∀ i ∈ L, PatC w B (q i) (z i)) → PatsC w B (L.map q) (L.flatMap z)
  | [], _ => by rw [List.map_nil, patsC_nil]; rfl
  | i :: L, h => by
    rw [List.map_cons, patsC_cons]
    exact ⟨z i, L.flatMap z, rfl, h i (List.mem_cons_self ..), patsC_of q z L fun j hj => h j (List.mem_cons_of_mem _ hj)⟩
/-- The rows of a slice, read. -/
theorem reads_rows {w : World} {a : Addr} {k len : Nat} (hk : 0 < k) (z : Nat → List Value) (hz : ∀ i, (z i).length = k) (h : ∀ i, i < len → ∀ j u, (z i)[j]? = some u → w.cell? (a.add (i * k + j)) = some u) : Reads w w.heap.size k (some a) len ((List.range len).flatMap z) := by
  refine ⟨by rw [flatMap_len z k hz]; simp, fun hn => ⟨a, rfl, ?_, fun j u hu => ?_⟩⟩
  · have h0 : 0 < (z 0).length := by rw [hz]; exact hk
    have := lt_cell (h 0 hn 0 _ (List.getElem?_eq_getElem h0))
    rwa [block_of_add] at this
  · have hj : j < len * k := by
      have := (List.getElem?_eq_some_iff.1 hu).1
      rw [flatMap_len z k hz] at this; simpa using this
    rw [flatMap_get z k hz _ j (by simpa using hj)] at hu
    have hd : j / k < len := Nat.div_lt_of_lt_mul (by rw [Nat.mul_comm]; exact hj)
    have he : (List.range len)[j / k]! = j / k := by rw [getElem!_pos (List.range len) (j / k) (by simpa using hd)]; simp
    rw [he] at hu
    have hm : j % k < (z (j / k)).length := by rw [hz]; exact Nat.mod_lt _ hk
    rw [getElem!_pos (z (j / k)) (j % k) hm, ← List.getElem?_eq_getElem] at hu
    have := h (j / k) hd (j % k) u hu
    rwa [show j / k * k + j % k = j by rw [Nat.mul_comm]; exact Nat.div_add_mod j k] at this
theorem open_pat_t {t : TypeId} (T : PatTy P t) : ∀ (fuel : Nat) (cs : List Value) (y : DataW H × List MemPlace), DataW.trod enc P W 0 (fun _ => true) true fuel t cs = some y → ∃ p : Pt, PatC W W.heap.size p cs := by
  obtain ⟨f0, f1, f2, f3, f4, f5, hu, ⟨o0, o1, o2, o3, o4, o5⟩, ⟨c0, c1, c2, c3, c4, c5, c6⟩, u0, u1, u2, u3, u4, u5⟩ := T
  intro fuel
  induction fuel using Nat.strongRecOn with
  | _ fuel ih =>
    intro cs y h
    obtain ⟨xs, n, rfl, _, hl, hlen, hf⟩ := DataW.trod_struct hu h
    rw [c6] at hl
    match xs, hlen, cs, hl with
    | [y0, y1, y2, y3, y4, y5], _, [v0, v1, v2, v3, v4, v5, v6], _ =>
      have k0 := hf 0 f0 rfl
      have k1 := hf 1 f1 rfl
      have k2 := hf 2 f2 rfl
      have k3 := hf 3 f3 rfl
      have k4 := hf 4 f4 rfl
      have k5 := hf 5 f5 rfl
      simp [o0, o1, o2, o3, o4, o5, c0, c1, c2, c3, c4, c5] at k0 k1 k2 k3 k4 k5
      obtain ⟨k, e0, _, _⟩ := DataW.trod_int u0 k0
      obtain ⟨s, e1, hs⟩ := open_snd_t u1 k1
      obtain ⟨neg, e2, _⟩ := DataW.trod_bool u2 k2
      obtain ⟨lo, e3, _, _⟩ := DataW.trod_int u3 k3
      obtain ⟨hi, e4, _, _⟩ := DataW.trod_int u4 k4
      simp only [sndC, List.cons.injEq, and_true] at e0 e1 e2 e3 e4
      obtain ⟨rfl, rfl⟩ := e1
      subst e0 e2 e3 e4
      rcases DataW.trod_slice u5 k5 with ⟨e5, _⟩ | ⟨a, len, cap, elems, rest, m, hm, e5, _, _, hlc, hcm, hel, hx, _, _⟩
      · simp only [List.cons.injEq, and_true] at e5
        subst e5
        refine ⟨.mk k s neg lo hi [], patC_mk.2 ⟨none, 0, [], rfl, hs, Nat.le_refl _, by unfold maxLen; omega, Reads.none_, patsC_nil.2 rfl⟩⟩
      · simp only [List.cons.injEq, and_true] at e5
        subst e5
        obtain ⟨z, hz⟩ : ∃ z : Nat → List Value, ∀ i, z i = (List.range 7).map fun j => (W.cell? (a.add (i * 7 + j))).getD (.bool false) := ⟨_, fun _ => rfl⟩
        have hzl : ∀ i, (z i).length = 7 := fun i => by rw [hz]; simp
        have each : ∀ i, i < len → ∃ p : Pt, PatC W W.heap.size p (z i) ∧ ∀ j u, (z i)[j]? = some u → W.cell? (a.add (i * 7 + j)) = some u := by
          intro i hi
          have hi' : i < elems.length := by omega
          have hxi := hx i hi
          rw [List.getElem?_eq_getElem hi', Option.bind_eq_some_iff] at hxi
          obtain ⟨cs', h1, h2⟩ := hxi
          rw [c6] at h1
          obtain ⟨_, hlen', hcell⟩ := World.cells?_some h1
          have hcell' : ∀ j, j < 7 → W.cell? (a.add (i * 7 + j)) = cs'[j]? := fun j hj => by
            have := hcell j hj
            rwa [Go.Deep.add_add] at this
          have hze : z i = cs' := by
            rw [hz]
            apply List.ext_getElem?
            intro j
            by_cases hj : j < 7
            · rw [List.getElem?_map, List.getElem?_range hj]
              simp only [Option.map_some]
              rw [hcell' j hj, List.getElem?_eq_getElem (by omega)]
              rfl
            · rw [List.getElem?_eq_none (by simpa using hj), List.getElem?_eq_none (by omega)]
          obtain ⟨p, hp⟩ := ih m (by omega) cs' _ h2
          refine ⟨p, by rw [hze]; exact hp, fun j u hu => ?_⟩
          rw [hze] at hu
          have hj : j < 7 := by have := (List.getElem?_eq_some_iff.1 hu).1; omega
          rw [hcell' j hj]; exact hu
        obtain ⟨q, hq⟩ := @Go.Deep.choose_lt Pt ⟨.mk 0 (0, 0) false 0 0 []⟩ _ _ each
        refine ⟨.mk k s neg lo hi ((List.range len).map q), patC_mk.2 ⟨some a, cap, (List.range len).flatMap z, ?_, hs, ?_, hcm, ?_, patsC_of q z _ fun i hi => (hq i (List.mem_range.1 hi)).1⟩⟩
        · simp
        · simpa using hlc
        · rw [List.length_map, List.length_range]
          exact reads_rows (by decide) z hzl fun i hi => (hq i hi).2
def OutTy (P : Program) (t : TypeId) : Prop := ∃ f0 f1 f2 f3 f4 : Field, P.underlying t = some (.struct #[f0, f1, f2, f3, f4]) ∧ (f0.offset = 0 ∧ f1.offset = 1 ∧ f2.offset = 2 ∧ f3.offset = 4 ∧ f4.offset = 5) ∧
  (P.cellsOf f0.type = 1 ∧ P.cellsOf f1.type = 1 ∧ P.cellsOf f2.type = 2 ∧ P.cellsOf f3.type = 1 ∧ P.cellsOf f4.type = 1 ∧ P.cellsOf t = 6) ∧
  P.underlying f0.type = some (.int .i64) ∧ P.underlying f1.type = some (.int .u32) ∧ SndTy P f2.type ∧ P.underlying f3.type = some (.int .u32) ∧ P.underlying f4.type = some (.int .i64)
theorem open_out_t {t : TypeId} (T : OutTy P t) {fuel : Nat} {cs : List Value} {y : DataW H × List MemPlace} (h : DataW.trod enc P W 0 (fun _ => true) true fuel t cs = some y) : ∃ x : Ot, cs = outC x ∧ is32 x.clear ∧ ok32 x.set ∧ is32 x.take := by
  obtain ⟨f0, f1, f2, f3, f4, hu, ⟨o0, o1, o2, o3, o4⟩, ⟨c0, c1, c2, c3, c4, c6⟩, u0, u1, u2, u3, u4⟩ := T
  obtain ⟨xs, n, _, _, hl, hlen, hf⟩ := DataW.trod_struct hu h
  rw [c6] at hl
  match xs, hlen, cs, hl with
  | [y0, y1, y2, y3, y4], _, [v0, v1, v2, v3, v4, v5], _ =>
    have k0 := hf 0 f0 rfl
    have k1 := hf 1 f1 rfl
    have k2 := hf 2 f2 rfl
    have k3 := hf 3 f3 rfl
    have k4 := hf 4 f4 rfl
    simp [o0, o1, o2, o3, o4, c0, c1, c2, c3, c4] at k0 k1 k2 k3 k4
    obtain ⟨x0, e0, _, _⟩ := DataW.trod_int u0 k0
    obtain ⟨x1, e1, _, w1⟩ := DataW.trod_int u1 k1
    obtain ⟨s, e2, hs⟩ := open_snd_t u2 k2
    obtain ⟨x3, e3, _, w3⟩ := DataW.trod_int u3 k3
    obtain ⟨x4, e4, _, _⟩ := DataW.trod_int u4 k4
    simp only [sndC, List.cons.injEq, and_true] at e0 e1 e2 e3 e4
    obtain ⟨rfl, rfl⟩ := e2
    subst e0 e1 e3 e4
    obtain ⟨m1, rfl, l1⟩ := u32_of_wf w1
    obtain ⟨m3, rfl, l3⟩ := u32_of_wf w3
    exact ⟨⟨x0, m1, s, m3, x4⟩, rfl, l1, hs, l3⟩
/-- A slice of rows, each of them opened. -/
theorem open_rows_t {α : Type} [Inhabited α] {t e : TypeId} {k : Nat} (hk : 0 < k) (f : α → List Value) (hf : ∀ x, (f x).length = k) (ok : α → Prop) (ht : P.underlying t = some (.slice e)) (ce : P.cellsOf e = k)
    (ho : ∀ (n : Nat) (cs : List Value) (y : DataW H × List MemPlace), DataW.trod enc P W 0 (fun _ => true) true n e cs = some y → ∃ x : α, cs = f x ∧ ok x) {fuel : Nat} {cs : List Value} {x : DataW H × List MemPlace}
    (h : DataW.trod enc P W 0 (fun _ => true) true fuel t cs = some x) :
    ∃ A n c, ∃ rs : List α, cs = [.slice A n c] ∧ rs.length = n ∧ Reads W W.heap.size k A n (rs.flatMap f) ∧ (∀ s ∈ rs, ok s) ∧ n ≤ c ∧ c ≤ maxLen := by
  rcases Go.Deep.open_slice ht h with ⟨rfl, _⟩ | ⟨a, len, cap, m, n, D, Pl, rfl, hb, hl, hm, hmm, rfl, hx⟩
  · exact ⟨none, 0, 0, [], rfl, rfl, Reads.none_, (fun s hs => by cases hs), by omega, by unfold maxLen; omega⟩
  · simp only [if_true] at hmm
    subst hmm
    have each : ∀ i, i < m → ∃ q : α, ok q ∧ ∀ j u, (f q)[j]? = some u → W.cell? (a.add (i * k + j)) = some u := by
      intro i hi
      obtain ⟨cs', h1, h2⟩ := hx i hi
      rw [ce] at h1
      obtain ⟨_, hlen, hcell⟩ := World.cells?_some h1
      obtain ⟨q, rfl, hq⟩ := ho _ _ _ h2
      refine ⟨q, hq, fun j u hu => ?_⟩
      have hj : j < k := by have := (List.getElem?_eq_some_iff.1 hu).1; omega
      have := hcell j hj
      rw [Go.Deep.add_add] at this
      rw [this]; exact hu
    obtain ⟨q, hq⟩ := Go.Deep.choose_lt each
    refine ⟨some a, len, m, (List.range len).map q, rfl, by simp, ?_, fun s hs => ?_, hl, hm⟩
    · rw [List.flatMap_map]
      exact reads_rows hk (fun i => f (q i)) (fun i => hf _) fun i hi => (hq i (by omega)).2
    · obtain ⟨i, hi, rfl⟩ := List.mem_map.1 hs
      exact (hq i (by have := List.mem_range.1 hi; omega)).1
def LawTy (P : Program) (t : TypeId) : Prop := ∃ f0 f1 f2 f3 f4 f5 : Field, ∃ es eo : TypeId, P.underlying t = some (.struct #[f0, f1, f2, f3, f4, f5]) ∧ (f0.offset = 0 ∧ f1.offset = 1 ∧ f2.offset = 8 ∧ f3.offset = 15 ∧ f4.offset = 16 ∧ f5.offset = 17) ∧
  (P.cellsOf f0.type = 1 ∧ P.cellsOf f1.type = 7 ∧ P.cellsOf f2.type = 7 ∧ P.cellsOf f3.type = 1 ∧ P.cellsOf f4.type = 1 ∧ P.cellsOf f5.type = 1 ∧ P.cellsOf t = 18) ∧
  P.underlying f0.type = some .string ∧ PatTy P f1.type ∧ PatTy P f2.type ∧ (P.underlying f3.type = some (.slice es) ∧ P.cellsOf es = 2 ∧ SndTy P es) ∧ (P.underlying f4.type = some (.slice eo) ∧ P.cellsOf eo = 6 ∧ OutTy P eo) ∧ P.underlying f5.type = some (.int .i64)
theorem open_law_t {t : TypeId} (T : LawTy P t) {fuel : Nat} {cs : List Value} {y : DataW H × List MemPlace} (h : DataW.trod enc P W 0 (fun _ => true) true fuel t cs = some y) : ∃ l : Lw, LawC W W.heap.size l cs ∧ l.name.size ≤ maxLen := by
  obtain ⟨f0, f1, f2, f3, f4, f5, es, eo, hu, ⟨o0, o1, o2, o3, o4, o5⟩, ⟨c0, c1, c2, c3, c4, c5, c6⟩, u0, u1, u2, ⟨u3, cs3, t3⟩, ⟨u4, cs4, t4⟩, u5⟩ := T
  obtain ⟨xs, n, _, _, hl, hlen, hf⟩ := DataW.trod_struct hu h
  rw [c6] at hl
  match xs, hlen, cs, hl with
  | [y0, y1, y2, y3, y4, y5], _, [v0, v1, v2, v3, v4, v5, v6, v7, v8, v9, v10, v11, v12, v13, v14, v15, v16, v17], _ =>
    have k0 := hf 0 f0 rfl
    have k1 := hf 1 f1 rfl
    have k2 := hf 2 f2 rfl
    have k3 := hf 3 f3 rfl
    have k4 := hf 4 f4 rfl
    have k5 := hf 5 f5 rfl
    simp [o0, o1, o2, o3, o4, o5, c0, c1, c2, c3, c4, c5] at k0 k1 k2 k3 k4 k5
    obtain ⟨nm, e0, _, hnm⟩ := DataW.trod_string u0 k0
    obtain ⟨left, hleft⟩ := open_pat_t u1 _ _ _ k1
    obtain ⟨right, hright⟩ := open_pat_t u2 _ _ _ k2
    obtain ⟨A3, n3, q3, ifs, e3, rfl, r3, ok3, l3, m3⟩ := open_rows_t (by decide) sndC (fun _ => rfl) ok32 u3 cs3 (fun n cs y hh => open_snd_t t3 hh) k3
    obtain ⟨A4, n4, q4, outs, e4, rfl, r4, ok4, l4, m4⟩ := open_rows_t (by decide) outC (fun _ => rfl) (fun x => is32 x.clear ∧ ok32 x.set ∧ is32 x.take) u4 cs4 (fun n cs y hh => open_out_t t4 hh) k4
    obtain ⟨mo, e5, _, _⟩ := DataW.trod_int u5 k5
    simp only [List.cons.injEq, and_true] at e0 e3 e4 e5
    subst e0 e3 e4 e5
    exact ⟨⟨nm, left, right, ifs, outs, mo⟩, ⟨_, _, A3, q3, A4, q4, rfl, hleft, hright, r3, r4, ok3, ok4, Nat.le_trans l3 m3, Nat.le_trans l4 m4⟩, hnm⟩
theorem open_law {t : TypeId} (T : LawTy P t) {b0 : Nat} {v : Value} {d : DataW H} {ps : List MemPlace} (hval : Value.okWide P W .any b0 t v) (h : DataW.Trod enc P W 0 (fun _ => true) true t v d ps) : ∃ (l : Lw) (cs : List Value), v = .agg cs.toArray ∧ LawC W W.heap.size l cs ∧ l.name.size ≤ maxLen := by
  have T' := T
  obtain ⟨f0, f1, f2, f3, f4, f5, es, eo, hu, -⟩ := T'
  obtain ⟨cs, rfl, _⟩ := okWide_struct hu hval
  obtain ⟨fuel, hf⟩ := h
  obtain ⟨l, h1, h2⟩ := open_law_t T hf
  exact ⟨l, cs.toList, by simp, by simpa [Value.cells] using h1, h2⟩
end
theorem sndTy : SndTy Tryd.prog 24 := ⟨_, _, Tryd.underlying24, ⟨rfl, rfl⟩, ⟨by kernel_rfl, by kernel_rfl, by kernel_rfl⟩, Tryd.underlying22, Tryd.underlying22⟩
theorem patTy : PatTy Tryd.prog 27 := ⟨_, _, _, _, _, _, Tryd.underlying27, ⟨rfl, rfl, rfl, rfl, rfl, rfl⟩, ⟨by kernel_rfl, by kernel_rfl, by kernel_rfl, by kernel_rfl, by kernel_rfl, by kernel_rfl, by kernel_rfl⟩,
  Tryd.underlying3, sndTy, Tryd.underlying4, Tryd.underlying3, Tryd.underlying3, Tryd.underlying25⟩
theorem outTy : OutTy Tryd.prog 60 := ⟨_, _, _, _, _, Tryd.underlying60, ⟨rfl, rfl, rfl, rfl, rfl⟩, ⟨by kernel_rfl, by kernel_rfl, by kernel_rfl, by kernel_rfl, by kernel_rfl, by kernel_rfl⟩,
  Tryd.underlying3, Tryd.underlying22, sndTy, Tryd.underlying22, Tryd.underlying3⟩
theorem lawTy : LawTy Tryd.prog 31 := ⟨_, _, _, _, _, _, _, _, Tryd.underlying31, ⟨rfl, rfl, rfl, rfl, rfl, rfl⟩, ⟨by kernel_rfl, by kernel_rfl, by kernel_rfl, by kernel_rfl, by kernel_rfl, by kernel_rfl, by kernel_rfl⟩,
  Tryd.underlying9, patTy, patTy, ⟨Tryd.underlying28, by kernel_rfl, sndTy⟩, ⟨Tryd.underlying29, by kernel_rfl, outTy⟩, Tryd.underlying3⟩
end Go.Proofs.YtipfhamhiaeieaaDoor
namespace Go.Proofs.YtipfhamhiaeieaaDoor
open Go.RowKit Go.Lib

/-- All blocks but those of S are as they were. -/
structure Chg (S : List Nat) (w w' : World) : Prop where
  os : w'.os = w.os
  tape : w'.tape = w.tape
  output : w'.output = w.output
  size : w.heap.size ≤ w'.heap.size
  block : ∀ k, k < w.heap.size → k ∉ S → w'.heap[k]? = w.heap[k]?
theorem Chg.refl (S : List Nat) (w : World) : Chg S w w := ⟨rfl, rfl, rfl, Nat.le_refl _, fun _ _ _ => rfl⟩
section
variable {S : List Nat} {a w w' : World}
theorem Chg.trans (h : Chg S a w) (k : Chg S w w') : Chg S a w' :=
  ⟨k.os.trans h.os, k.tape.trans h.tape, k.output.trans h.output, Nat.le_trans h.size k.size, fun i hi hs => (k.block i (Nat.lt_of_lt_of_le hi h.size) hs).trans (h.block i hi hs)⟩
theorem Chg.mono {T : List Nat} (h : Chg S a w) (hs : ∀ k ∈ S, k ∈ T) : Chg T a w := ⟨h.os, h.tape, h.output, h.size, fun k hk hn => h.block k hk (fun hm => hn (hs k hm))⟩
theorem Chg.alloc (h : Chg S a w) (o : Obj) : Chg S a (w.alloc o) :=
  h.trans ⟨rfl, rfl, rfl, by simp, fun _ hk _ => Below.heap_alloc _ _ _ hk⟩
theorem Chg.drew (h : Chg S a w) : Chg S a w.drew := ⟨h.os, h.tape, h.output, h.size, h.block⟩
theorem Chg.setCell (h : Chg S a w) {p : Addr} (hp : p.block ∈ S ∨ a.heap.size ≤ p.block) (u : Value) : Chg S a (w.setCell p u) :=
  ⟨h.os, h.tape, h.output, by have := h.size; simpa [World.setCell] using this, fun k hk hs => (Below.heap_setCell _ _ _ _ (by
    rintro rfl
    rcases hp with hp | hp
    · exact hs hp
    · omega)).trans (h.block k hk hs)⟩
theorem Chg.of_below (h : Below w.heap.size w w') : Chg S w w' := ⟨h.os, h.tape, h.output, h.size, fun k hk _ => h.block k hk⟩
/-- What was changed there is new. -/
theorem Chg.new (h : Chg S a w) {T : List Nat} (k : Chg T w w') (hT : ∀ i ∈ T, i ∈ S ∨ a.heap.size ≤ i) : Chg S a w' :=
  ⟨k.os.trans h.os, k.tape.trans h.tape, k.output.trans h.output, Nat.le_trans h.size k.size, fun i hi hs => (k.block i (Nat.lt_of_lt_of_le hi h.size) (fun hm => by
    rcases hT i hm with h1 | h1
    · exact hs h1
    · omega)).trans (h.block i hi hs)⟩
theorem Chg.below {B : Nat} (h : Chg S w w') (hB : ∀ i ∈ S, B ≤ i) (hw : B ≤ w.heap.size) : Below B w w' :=
  ⟨h.os, h.tape, h.output, h.size, fun k hk => h.block k (by omega) (fun hm => by have := hB k hm; omega)⟩
theorem Blk.chg {g : Nat} {t : TypeId} {cs : Array Value} (h : Blk w g t cs) (hc : Chg S w w') (hg : g ∉ S) : Blk w' g t cs := (hc.block g h.lt hg).trans h
theorem own_chg {base : Nat} {e : TypeId} {size n : Nat} {v : Value} {xs : List Value} (h : w.ownsRow base e size v n xs) (hc : Chg S w w') (hs : ∀ k, v.ownBlock = some k → k ∉ S) : w'.ownsRow base e size v n xs := by
  rcases h.2 with ⟨rfl, rfl⟩ | ⟨g, cap, cur, rfl, h1, h2, h3⟩
  · exact ⟨h.1, .inl ⟨rfl, rfl⟩⟩
  · have hg : g < w.heap.size := (h.lt g rfl).2
    exact ⟨h.1, .inr ⟨g, cap, cur, rfl, h1, (hc.block g hg (hs g rfl)).trans h2, h3⟩⟩
end
def RT : Nat := 106
/-- The bytes that are left, behind a reader's pointer. -/
def Rd (w : World) (g : Nat) (bs : List Nat) : Prop :=
  ∃ A c, Blk w g 106 #[.slice A bs.length c] ∧ Reads w g 1 A bs.length (bs.map bv) ∧ bs.length ≤ c ∧ c ≤ maxLen ∧ bs.length ≤ 1073741824 ∧ ∀ b ∈ bs, b < 256
theorem Rd.lt {w : World} {g : Nat} {bs : List Nat} (h : Rd w g bs) : g < w.heap.size := by
  obtain ⟨A, c, h, _⟩ := h; exact h.lt
theorem Rd.alloc {w : World} {g : Nat} {bs : List Nat} (h : Rd w g bs) (o : Obj) : Rd (w.alloc o) g bs := by
  obtain ⟨A, c, h1, h2, h3⟩ := h
  exact ⟨A, c, h1.alloc o, h2.alloc (Nat.le_of_lt h1.lt) o, h3⟩
theorem Rd.chg {w w' : World} {g : Nat} {bs : List Nat} {S : List Nat} (h : Rd w g bs) (hc : Chg S w w') (hs : ∀ k ∈ S, g < k) : Rd w' g bs := by
  obtain ⟨A, c, h1, h2, h3⟩ := h
  have hl := h1.lt
  exact ⟨A, c, h1.chg hc (fun hm => Nat.lt_irrefl _ (hs g hm)), h2.below (hc.below (fun i hi => Nat.le_of_lt (hs i hi)) (by omega)), h3⟩
/-- What is behind the first k bytes. -/
theorem cut_at (A : Option Addr) (n c k : Nat) (hk : k ≤ n) (hn : n ≤ c) : ∃ A1, (∀ W : World, (Instr.slice 35 (.slice A n c) (some (.int .i64 k)) none none).run Tryd.prog W = .ok (.slice A1 (n - k) (c - k)) W) ∧
    ∀ (W : World) (B : Nat) (xs : List Value), Reads W B 1 A n xs → Reads W B 1 A1 (n - k) (xs.drop k) := by
  refine ⟨if c = k then A else A.map (·.add (k * 1)), fun W => ?_, fun W B xs hr => by simpa using hr.cut (k := k) (cap := c) hk hn⟩
  obtain ⟨i0, hi, hz0, hz1, hz2⟩ := info_parts (show (Tryd.prog.info? 5).map (fun i => (i.zero, i.size, i.bytes)) = some (some (.int .u8 0), 1, 1) by kernel_rfl)
  have he : Tryd.prog.elem 35 = 5 := by kernel_rfl
  have hs : (sizeOf 5).run Tryd.prog W = .ok 1 W := by simp [sizeOf, typeInfo, hi, hz1]
  rw [run_slice_l W 35 A n c (by rw [he]; exact Tryd.underlying35) .i64 k (by omega) (by omega), he, hs]
  simp only [Result.andThen, sliced, Int.toNat_natCast]
theorem cut_one (ad : Addr) (m c : Nat) (h : m + 1 ≤ c) : ∃ A1, (∀ W : World, (Instr.slice 35 (.slice (some ad) (m + 1) c) (some (.int .i64 1)) none none).run Tryd.prog W = .ok (.slice A1 m (c - 1)) W) ∧
    ∀ (W : World) (B : Nat) (x : Value) (xs : List Value), Reads W B 1 (some ad) (m + 1) (x :: xs) → Reads W B 1 A1 m xs := by
  obtain ⟨A1, h1, h2⟩ := cut_at (some ad) (m + 1) c 1 (by omega) h
  exact ⟨A1, h1, fun W B x xs hr => h2 W B _ hr⟩
theorem or_step {acc k b T : Nat} (ha : acc < 128 ^ k) (hT : acc + 128 ^ k * (b % 128) = T) (hb : b < 256) (hT35 : T < 34359738368) :
    bits .or .u64 (acc : Int) (IntKind.u64.wrap (IntKind.u64.wrap (bits .and .u8 (b : Int) 127) * 2 ^ (7 * k))) = (T : Int) := by
  have h1 : bits .and .u8 (b : Int) 127 = ((b % 128 : Nat) : Int) := by
    have := u8_and_nat b 127 hb (by decide)
    rw [show b &&& 127 = b % 128 from Nat.and_two_pow_sub_one_eq_mod b 7] at this
    exact this
  have hp : (128 : Nat) ^ k = 2 ^ (7 * k) := by rw [Nat.pow_mul]
  have hle : 128 ^ k * (b % 128) ≤ T := by omega
  have h2 : IntKind.u64.wrap ((b % 128 : Nat) : Int) = ((b % 128 : Nat) : Int) := IntWalk.u64_in _ (by omega)
  have h3 : ((b % 128 : Nat) : Int) * 2 ^ (7 * k) = ((128 ^ k * (b % 128) : Nat) : Int) := by
    rw [hp, Nat.mul_comm (2 ^ (7 * k))]; simp
  have h4 : IntKind.u64.wrap ((128 ^ k * (b % 128) : Nat) : Int) = ((128 ^ k * (b % 128) : Nat) : Int) := IntWalk.u64_in _ (by omega)
  rw [h1, h2, h3, h4, u64_or_nat acc _ (by omega) (by omega)]
  have h5 : acc ||| 128 ^ k * (b % 128) = T := by
    rw [Nat.or_comm, hp, ← Nat.two_pow_add_eq_or_of_lt (by rw [← hp]; exact ha), ← hp]; omega
  rw [h5]
/-- What a reader panics with. -/
abbrev MAL : List PanicEntry := [{ v := .iface 103 (.agg #[]), recovered := false }]
/-- What reading ends in: a value, and the bytes behind it, or a panic; all blocks but the reader's are as they were. -/
def RdPost {α : Type} (g : Nat) (val : α → World → Value → Prop) (w : World) (o : Option (α × List Nat)) (e : Ending) (w' : World) : Prop :=
  Chg [g] w w' ∧ match o with
    | some (x, r) => ∃ v, e = .returned v ∧ val x w' v ∧ Rd w' g r
    | none => e = .panicked MAL
section
variable {k acc b : Nat} {l : List Nat}
theorem readK_zero : readK 0 k acc l = none := rfl
theorem readK_nil (hk : k < 5) : readK (5 - k) k acc [] = none := by
  rw [show 5 - k = (4 - k) + 1 by omega]; rfl
theorem readK_cons (hk : k < 5) : readK (5 - k) k acc (b :: l) = if 128 ≤ b then readK (5 - (k + 1)) (k + 1) (acc + 128 ^ k * (b % 128)) l else if (b = 0 ∧ 0 < k) ∨ 4294967296 ≤ acc + 128 ^ k * b then none else some (acc + 128 ^ k * b, l) := by
  rw [show 5 - k = (4 - k) + 1 by omega, show 5 - (k + 1) = 4 - k by omega]; rfl
end
theorem rd_set {w : World} {g b c c1 : Nat} {bs : List Nat} {A A1 : Option Addr} (h1 : Blk w g 106 #[.slice A (b :: bs).length c]) (hr : Reads w g 1 A1 bs.length (bs.map bv)) (h2 : bs.length ≤ c1) (h3 : c1 ≤ maxLen) (h6 : bs.length ≤ 1073741824) (h4 : ∀ x ∈ bs, x < 256) : Rd (w.setCell ⟨g, 0, none⟩ (.slice A1 bs.length c1)) g bs :=
  ⟨A1, c1, by simpa using h1.set_ 0 (.slice A1 bs.length c1), hr.setCell (Nat.le_refl _) _, h2, h3, h6, h4⟩
set_option maxRecDepth 20000 in
set_option maxHeartbeats 4000000 in
theorem rnum_any (w : World) (g : Nat) (bs : List Nat) (h : Rd w g bs) :
    Calls Tryd.prog 76 #[wptr g] w (RdPost g (fun (n : Nat) _ v => v = .int .u32 n) w (readN bs)) := by
  have HH := Lib.hid h
  clear h
  obtain ⟨o, ho⟩ : ∃ o, readN bs = o := ⟨_, rfl⟩
  rw [ho]
  have HO := Lib.hid ho
  clear ho
  go_enter Tryd.func76, Tryd.ntmps76
  go_wp2
  go_loopw [3, 6] (fun a i wr => ∃ k acc : Nat, ∃ bs' : List Nat, k ≤ 5 ∧ i = .int .i64 k ∧ a = .int .u64 acc ∧ acc < 128 ^ k ∧ readK (5 - k) k acc bs' = o ∧ Rd wr g bs' ∧ Chg [g] w wr) (fun _ i _ => 5 - (RowKit.intOf i).toNat)
  case atStart => exact ⟨0, 0, bs, by omega, rfl, rfl, by decide, HO.out, HH.out, Chg.refl _ _⟩
  case round =>
    obtain ⟨k, acc, bs', hk, rfl, rfl, hacc, hrd, hr, hch⟩ := hrel
    obtain ⟨A, c, h1, h2, h3, h4, h6, h5⟩ := id hr
    have HRD := Lib.hid hrd; have HR := Lib.hid hr; have HCH := Lib.hid hch; have HACC := Lib.hid hacc; have H1 := Lib.hid h1; have H2 := Lib.hid h2; have H5 := Lib.hid h5; have H4 := Lib.hid h4
    have hc0 := h1.cell 0
    have hf0 := h1.frozen 0
    have hgl := h1.lt
    simp only [List.getElem?_toArray, List.getElem?_cons_zero] at hc0
    clear hrd hr hch hacc h2 h5 h1
    unfold maxLen at h4
    by_cases hlt : k < 5
    · have hkI : (k : Int) < 5 := by omega
      cases bs' with
      | nil =>
        have e := HRD.out
        rw [readK_nil hlt] at e
        subst e
        simp only [List.length_nil] at *
        go_wp2
        exact ⟨rfl, HCH.out, rfl⟩
      | cons b bs' =>
        have h2 := H2.out
        obtain ⟨ad, rfl, had, hcell⟩ := h2.2 (by simp)
        have hb0 : wr.cell? ad = some (bv b) := by have := hcell 0 _ rfl; simpa [Addr.add] using this
        obtain ⟨A1, hcut, hcr⟩ := cut_one ad bs'.length c (by simpa using h3)
        have hbb := H5.out b (List.mem_cons_self ..)
        have hrest := fun x hx => H5.out x (List.mem_cons_of_mem b hx)
        have hset : Rd (wr.setCell ⟨g, 0, none⟩ (.slice A1 bs'.length (c - 1))) g bs' := rd_set H1.out (hcr wr g _ _ (by simpa using h2)) (by simp only [List.length_cons] at h3; omega) (by have := H4.out; omega) (by simp only [List.length_cons] at h6; omega) hrest
        have hchs := HCH.out.setCell (p := ⟨g, 0, none⟩) (.inl (by simp)) (.slice A1 bs'.length (c - 1))
        have e := HRD.out
        rw [readK_cons hlt] at e
        obtain ⟨T, hT⟩ : ∃ T : Nat, acc + 128 ^ k * (b % 128) = T := ⟨_, rfl⟩
        have hTk : T < 128 ^ (k + 1) := by
          have h128 : 128 ^ k * (b % 128) ≤ 128 ^ k * 127 := Nat.mul_le_mul_left _ (by omega)
          have := HACC.out
          rw [← hT, Nat.pow_succ]; omega
        have hT35 : T < 34359738368 := Nat.lt_of_lt_of_le hTk (by
          have : 128 ^ (k + 1) ≤ 128 ^ 5 := Nat.pow_le_pow_right (by decide) (by omega)
          exact this)
        have hor := or_step (k := k) (b := b) HACC.out hT hbb hT35
        rw [hT] at e
        have HTK := Lib.hid hTk; have HSET := Lib.hid hset; have HCHS := Lib.hid hchs
        simp only [List.length_cons] at *
        clear hcr hcell h2 hTk hset hchs hrest
        by_cases h128 : 128 ≤ b
        · have h128I : (128 : Int) ≤ b := by omega
          rw [if_pos h128] at e
          have HE := Lib.hid e
          clear e hT
          go_wp2
          go_roundw
          case rel => exact ⟨k + 1, T, bs', by omega, by go_num, rfl, HTK.out, HE.out, HSET.out, HCHS.out⟩
          case measure => simp [RowKit.intOf]; omega
        · have h128I : ¬ (128 : Int) ≤ b := by omega
          rw [if_neg h128] at e
          have hTe : acc + 128 ^ k * b = T := by rw [← hT, Nat.mod_eq_of_lt (by omega)]
          rw [hTe] at e
          clear hT hTe
          by_cases hz : b = 0 ∧ 0 < k
          · have hz0 : ((b : Int) == 0) = true := by rw [beq_iff_eq]; omega
            have hkI0 : (0 : Int) < k := by omega
            rw [if_pos (.inl hz)] at e
            subst e
            clear hz
            go_wp2
            exact ⟨rfl, HCHS.out, rfl⟩
          · by_cases hbig : 4294967296 ≤ T
            · have hbI : ((T : Int) / 4294967296 != 0) = true := by rw [bne_iff_ne]; omega
              rw [if_pos (.inr hbig)] at e
              subst e
              by_cases hb0' : b = 0
              · have hz0 : ((b : Int) == 0) = true := by rw [beq_iff_eq]; omega
                have hkI0 : ¬ (0 : Int) < k := by omega
                clear hz hb0'
                go_wp2
                exact ⟨rfl, HCHS.out, rfl⟩
              · have hz0 : ((b : Int) == 0) = false := by rw [beq_eq_false_iff_ne]; omega
                clear hz hb0'
                go_wp2
                exact ⟨rfl, HCHS.out, rfl⟩
            · have hbI : ((T : Int) / 4294967296 != 0) = false := by rw [bne_eq_false_iff_eq]; omega
              have hmod : (T : Int) % 4294967296 = T := by omega
              rw [if_neg (by omega)] at e
              subst e
              by_cases hb0' : b = 0
              · have hz0 : ((b : Int) == 0) = true := by rw [beq_iff_eq]; omega
                have hkI0 : ¬ (0 : Int) < k := by omega
                clear hz hb0'
                go_wp2
                go_ret
                exact ⟨HCHS.out, _, rfl, rfl, HSET.out⟩
              · have hz0 : ((b : Int) == 0) = false := by rw [beq_eq_false_iff_ne]; omega
                clear hz hb0'
                go_wp2
                go_ret
                exact ⟨HCHS.out, _, rfl, rfl, HSET.out⟩
    · obtain rfl : k = 5 := by omega
      have e := HRD.out
      rw [show readK (5 - 5) 5 acc bs' = none from rfl] at e
      subst e
      go_wp2
      exact ⟨rfl, HCH.out, rfl⟩
end Go.Proofs.YtipfhamhiaeieaaDoor
