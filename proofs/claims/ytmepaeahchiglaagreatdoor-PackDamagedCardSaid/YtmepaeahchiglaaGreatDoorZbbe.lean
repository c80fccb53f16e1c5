/-
  Arguments opened: patterns and laws. Conditions: none.
-/
import Derived.Test.YtmepaeahchiglaaGreatDoorZbab
import Derived.Test.YtmepaeahchiglaaGreatDoorZbae
import Derived.Test.YtmepaeahchiglaaGreatDoorZbas
namespace Go.Proofs.YtmepaeahchiglaaGreatDoor
open Go.ChangeShapes Go.WideShapes Go.ChangeAt Go.RowKit

section
variable {H : Type} {enc : TypeId × Value → H} {P : Program} {W : World}
def SndTy (P : Program) (t : TypeId) : Prop := ∃ g0 g1 : Field, P.underlying t = some (.struct #[g0, g1]) ∧ (g0.offset = 0 ∧ g1.offset = 1) ∧ (P.cellsOf g0.type = 1 ∧ P.cellsOf g1.type = 1 ∧ P.cellsOf t = 2) ∧ P.underlying g0.type = some (.int .u32) ∧ P.underlying g1.type = some (.int .u32)
theorem open_snd_t {t : TypeId} (T : SndTy P t) {fuel : Nat} {cs : List Value} {y : DataW H × List MemPlace} (h : DataW.trod enc P W 0 (fun _ => true) true fuel t cs = some y) : ∃ s : Snd, cs = sndC s ∧ ok32 s := by
  obtain ⟨g0, g1, hu, ⟨o0, o1⟩, ⟨c0, c1, c2⟩, u0, u1⟩ := T
  obtain ⟨xs, n, _, _, hl, hlen, hf⟩ := DataW.trod_struct hu h
  rw [c2] at hl
  match xs, hlen, cs, hl with
  | [y0, y1], _, [v0, v1], _ =>
    have k0 := hf 0 g0 rfl
    have k1 := hf 1 g1 rfl
    simp [o0, o1, c0, c1] at k0 k1
    obtain ⟨z0, e0, _, w0⟩ := DataW.trod_int u0 k0
    obtain ⟨z1, e1, _, w1⟩ := DataW.trod_int u1 k1
    simp only [List.cons.injEq, and_true] at e0 e1
    subst e0 e1
    obtain ⟨m0, rfl, l0⟩ := u32_of_wf w0
    obtain ⟨m1, rfl, l1⟩ := u32_of_wf w1
    exact ⟨(m0, m1), rfl, l0, l1⟩
def PatTy (P : Program) (t : TypeId) : Prop := ∃ f0 f1 f2 f3 f4 f5 : Field, P.underlying t = some (.struct #[f0, f1, f2, f3, f4, f5]) ∧ (f0.offset = 0 ∧ f1.offset = 1 ∧ f2.offset = 3 ∧ f3.offset = 4 ∧ f4.offset = 5 ∧ f5.offset = 6) ∧
  (P.cellsOf f0.type = 1 ∧ P.cellsOf f1.type = 2 ∧ P.cellsOf f2.type = 1 ∧ P.cellsOf f3.type = 1 ∧ P.cellsOf f4.type = 1 ∧ P.cellsOf f5.type = 1 ∧ P.cellsOf t = 7) ∧
  P.underlying f0.type = some (.int .i64) ∧ SndTy P f1.type ∧ P.underlying f2.type = some .bool ∧ P.underlying f3.type = some (.int .i64) ∧ P.underlying f4.type = some (.int .i64) ∧ P.underlying f5.type = some (.slice t)
theorem patsC_of {w : World} {B : Nat} (q : Nat → Pt) (z : Nat → List Value) : ∀ L : List Nat, (∀ i ∈ L, PatC w B (q i) (z i)) → PatsC w B (L.map q) (L.flatMap z)
  | [], _ => by rw [List.map_nil, patsC_nil]; rfl
  | i :: L, h => by
    rw [List.map_cons, patsC_cons]
    exact ⟨z i, L.flatMap z, rfl, h i (List.mem_cons_self ..), patsC_of q z L fun j hj => h j (List.mem_cons_of_mem _ hj)⟩
/-- The rows of a slice, read. -/
theorem reads_rows {w : World} {a : Addr} {k len : Nat} (hk : 0 < k) (z : Nat → List Value) (hz : ∀ i, (z i).length = k) (h : ∀ i, i < len → ∀ j u, (z i)[j]? = some u → w.cell? (a.add (i * k + j)) = some u) : Reads w w.heap.size k (some a) len ((List.range len).flatMap z) := by
  refine ⟨by rw [flatMap_len z k hz]; simp, fun hn => ⟨a, rfl, ?_, fun j u hu => ?_⟩⟩
  · have h0 : 0 < (z 0).length := by rw [hz]; exact hk
    have := lt_cell (h 0 hn 0 _ (List.getElem?_eq_getElem h0))
    rwa [block_of_add] at this
  · have hj : j < len * k := by
      have := (List.getElem?_eq_some_iff.1 hu).1
      rw [flatMap_len z k hz] at this; simpa using this
    rw [flatMap_get z k hz _ j (by simpa using hj)] at hu
    have hd : j / k < len := Nat.div_lt_of_lt_mul (by rw [Nat.mul_comm]; exact hj)
    have he : (List.range len)[j / k]! = j / k := by rw [getElem!_pos (List.range len) (j / k) (by simpa using hd)]; simp
    rw [he] at hu
    have hm : j % k < (z (j / k)).length := by rw [hz]; exact Nat.mod_lt _ hk
    rw [getElem!_pos (z (j / k)) (j % k) hm, ← List.getElem?_eq_getElem] at hu
    have := h (j / k) hd (j % k) u hu
    rwa [show j / k * k + j % k = j by rw [Nat.mul_comm]; exact Nat.div_add_mod j k] at this
theorem open_pat_t {t : TypeId} (T : PatTy P t) : ∀ (fuel : Nat) (cs : List Value) (y : DataW H × List MemPlace), DataW.trod enc P W 0 (fun _ => true) true fuel t cs = some y → ∃ p : Pt, PatC W W.heap.size p cs := by
  obtain ⟨f0, f1, f2, f3, f4, f5, hu, ⟨o0, o1, o2, o3, o4, o5⟩, ⟨c0, c1, c2, c3, c4, c5, c6⟩, u0, u1, u2, u3, u4, u5⟩ := T
  intro fuel
  induction fuel using Nat.strongRecOn with
  | _ fuel ih =>
    intro cs y h
    obtain ⟨xs, n, rfl, _, hl, hlen, hf⟩ := DataW.trod_struct hu h
    rw [c6] at hl
    match xs, hlen, cs, hl with
    | [y0, y1, y2, y3, y4, y5], _, [v0, v1, v2, v3, v4, v5, v6], _ =>
      have k0 := hf 0 f0 rfl
      have k1 := hf 1 f1 rfl
      have k2 := hf 2 f2 rfl
      have k3 := hf 3 f3 rfl
      have k4 := hf 4 f4 rfl
      have k5 := hf 5 f5 rfl
      simp [o0, o1, o2, o3, o4, o5, c0, c1, c2, c3, c4, c5] at k0 k1 k2 k3 k4 k5
      obtain ⟨k, e0, _, _⟩ := DataW.trod_int u0 k0
      obtain ⟨s, e1, hs⟩ := open_snd_t u1 k1
      obtain ⟨neg, e2, _⟩ := DataW.trod_bool u2 k2
      obtain ⟨lo, e3, _, _⟩ := DataW.trod_int u3 k3
      obtain ⟨hi, e4, _, _⟩ := DataW.trod_int u4 k4
      simp only [sndC, List.cons.injEq, and_true] at e0 e1 e2 e3 e4
      obtain ⟨rfl, rfl⟩ := e1
      subst e0 e2 e3 e4
      rcases DataW.trod_slice u5 k5 with ⟨e5, _⟩ | ⟨a, len, cap, elems, rest, m, hm, e5, _, _, hlc, hcm, hel, hx, _, _⟩
      · simp only [List.cons.injEq, and_true] at e5
        subst e5
        refine ⟨.mk k s neg lo hi [], patC_mk.2 ⟨none, 0, [], rfl, hs, Nat.le_refl _, by unfold maxLen; omega, Reads.none_, patsC_nil.2 rfl⟩⟩
      · simp only [List.cons.injEq, and_true] at e5
        subst e5
        obtain ⟨z, hz⟩ : ∃ z : Nat → List Value, ∀ i, z i = (List.range 7).map fun j => (W.cell? (a.add (i * 7 + j))).getD (.bool false) := ⟨_, fun _ => rfl⟩
        have hzl : ∀ i, (z i).length = 7 := fun i => by rw [hz]; simp
        have each : ∀ i, i < len → ∃ p : Pt, PatC W W.heap.size p (z i) ∧ ∀ j u, (z i)[j]? = some u → W.cell? (a.add (i * 7 + j)) = some u := by
          intro i hi
          have hi' : i < elems.length := by omega
          have hxi := hx i hi
          rw [List.getElem?_eq_getElem hi', Option.bind_eq_some_iff] at hxi
          obtain ⟨cs', h1, h2⟩ := hxi
          rw [c6] at h1
          obtain ⟨_, hlen', hcell⟩ := World.cells?_some h1
          have hcell' : ∀ j, j < 7 → W.cell? (a.add (i * 7 + j)) = cs'[j]? := fun j hj => by
            have := hcell j hj
            rwa [Go.Deep.add_add] at this
          have hze : z i = cs' := by
            rw [hz]
            apply List.ext_getElem?
            intro j
            by_cases hj : j < 7
            · rw [List.getElem?_map, List.getElem?_range hj]
              simp only [Option.map_some]
              rw [hcell' j hj, List.getElem?_eq_getElem (by omega)]
              rfl
            · rw [List.getElem?_eq_none (by simpa using hj), List.getElem?_eq_none (by omega)]
          obtain ⟨p, hp⟩ := ih m (by omega) cs' _ h2
          refine ⟨p, by rw [hze]; exact hp, fun j u hu => ?_⟩
          rw [hze] at hu
          have hj : j < 7 := by have := (List.getElem?_eq_some_iff.1 hu).1; omega
          rw [hcell' j hj]; exact hu
        obtain ⟨q, hq⟩ := @Go.Deep.choose_lt Pt ⟨.mk 0 (0, 0) false 0 0 []⟩ _ _ each
        refine ⟨.mk k s neg lo hi ((List.range len).map q), patC_mk.2 ⟨some a, cap, (List.range len).flatMap z, ?_, hs, ?_, hcm, ?_, patsC_of q z _ fun i hi => (hq i (List.mem_range.1 hi)).1⟩⟩
        · simp
        · simpa using hlc
        · rw [List.length_map, List.length_range]
          exact reads_rows (by decide) z hzl fun i hi => (hq i hi).2
def OutTy (P : Program) (t : TypeId) : Prop := ∃ f0 f1 f2 f3 f4 : Field, P.underlying t = some (.struct #[f0, f1, f2, f3, f4]) ∧ (f0.offset = 0 ∧ f1.offset = 1 ∧ f2.offset = 2 ∧ f3.offset = 4 ∧ f4.offset = 5) ∧
  (P.cellsOf f0.type = 1 ∧ P.cellsOf f1.type = 1 ∧ P.cellsOf f2.type = 2 ∧ P.cellsOf f3.type = 1 ∧ P.cellsOf f4.type = 1 ∧ P.cellsOf t = 6) ∧
  P.underlying f0.type = some (.int .i64) ∧ P.underlying f1.type = some (.int .u32) ∧ SndTy P f2.type ∧ P.underlying f3.type = some (.int .u32) ∧ P.underlying f4.type = some (.int .i64)
theorem open_out_t {t : TypeId} (T : OutTy P t) {fuel : Nat} {cs : List Value} {y : DataW H × List MemPlace} (h : DataW.trod enc P W 0 (fun _ => true) true fuel t cs = some y) : ∃ x : Ot, cs = outC x ∧ is32 x.clear ∧ ok32 x.set ∧ is32 x.take := by
  obtain ⟨f0, f1, f2, f3, f4, hu, ⟨o0, o1, o2, o3, o4⟩, ⟨c0, c1, c2, c3, c4, c6⟩, u0, u1, u2, u3, u4⟩ := T
  obtain ⟨xs, n, _, _, hl, hlen, hf⟩ := DataW.trod_struct hu h
  rw [c6] at hl
  match xs, hlen, cs, hl with
  | [y0, y1, y2, y3, y4], _, [v0, v1, v2, v3, v4, v5], _ =>
    have k0 := hf 0 f0 rfl
    have k1 := hf 1 f1 rfl
    have k2 := hf 2 f2 rfl
    have k3 := hf 3 f3 rfl
    have k4 := hf 4 f4 rfl
    simp [o0, o1, o2, o3, o4, c0, c1, c2, c3, c4] at k0 k1 k2 k3 k4
    obtain ⟨x0, e0, _, _⟩ := DataW.trod_int u0 k0
    obtain ⟨x1, e1, _, w1⟩ := DataW.trod_int u1 k1
    obtain ⟨s, e2, hs⟩ := open_snd_t u2 k2
    obtain ⟨x3, e3, _, w3⟩ := DataW.trod_int u3 k3
    obtain ⟨x4, e4, _, _⟩ := DataW.trod_int u4 k4
    simp only [sndC, List.cons.injEq, and_true] at e0 e1 e2 e3 e4
    obtain ⟨rfl, rfl⟩ := e2
    subst e0 e1 e3 e4
    obtain ⟨m1, rfl, l1⟩ := u32_of_wf w1
    obtain ⟨m3, rfl, l3⟩ := u32_of_wf w3
    exact ⟨⟨x0, m1, s, m3, x4⟩, rfl, l1, hs, l3⟩
/-- A slice of rows, each of them opened. -/
theorem open_rows_t {α : Type} [Inhabited α] {t e : TypeId} {k : Nat} (hk : 0 < k) (f : α → List Value) (hf : ∀ x, (f x).length = k) (ok : α → Prop) (ht : P.underlying t = some (.slice e)) (ce : P.cellsOf e = k)
    (ho : ∀ (n : Nat) (cs : List Value) (y : DataW H × List MemPlace), DataW.trod enc P W 0 (fun _ => true) true n e cs = some y → ∃ x : α, cs = f x ∧ ok x) {fuel : Nat} {cs : List Value} {x : DataW H × List MemPlace}
    (h : DataW.trod enc P W 0 (fun _ => true) true fuel t cs = some x) :
    ∃ A n c, ∃ rs : List α, cs = [.slice A n c] ∧ rs.length = n ∧ Reads W W.heap.size k A n (rs.flatMap f) ∧ (∀ s ∈ rs, ok s) ∧ n ≤ c ∧ c ≤ maxLen := by
  rcases Go.Deep.open_slice ht h with ⟨rfl, _⟩ | ⟨a, len, cap, m, n, D, Pl, rfl, hb, hl, hm, hmm, rfl, hx⟩
  · exact ⟨none, 0, 0, [], rfl, rfl, Reads.none_, (fun s hs => by cases hs), by omega, by unfold maxLen; omega⟩
  · simp only [if_true] at hmm
    subst hmm
    have each : ∀ i, i < m → ∃ q : α, ok q ∧ ∀ j u, (f q)[j]? = some u → W.cell? (a.add (i * k + j)) = some u := by
      intro i hi
      obtain ⟨cs', h1, h2⟩ := hx i hi
      rw [ce] at h1
      obtain ⟨_, hlen, hcell⟩ := World.cells?_some h1
      obtain ⟨q, rfl, hq⟩ := ho _ _ _ h2
      refine ⟨q, hq, fun j u hu => ?_⟩
      have hj : j < k := by have := (List.getElem?_eq_some_iff.1 hu).1; omega
      have := hcell j hj
      rw [Go.Deep.add_add] at this
      rw [this]; exact hu
    obtain ⟨q, hq⟩ := Go.Deep.choose_lt each
    refine ⟨some a, len, m, (List.range len).map q, rfl, by simp, ?_, fun s hs => ?_, hl, hm⟩
    · rw [List.flatMap_map]
      exact reads_rows hk (fun i => f (q i)) (fun i => hf _) fun i hi => (hq i (by omega)).2
    · obtain ⟨i, hi, rfl⟩ := List.mem_map.1 hs
      exact (hq i (by have := List.mem_range.1 hi; omega)).1
def LawTy (P : Program) (t : TypeId) : Prop := ∃ f0 f1 f2 f3 f4 f5 : Field, ∃ es eo : TypeId, P.underlying t = some (.struct #[f0, f1, f2, f3, f4, f5]) ∧ (f0.offset = 0 ∧ f1.offset = 1 ∧ f2.offset = 8 ∧ f3.offset = 15 ∧ f4.offset = 16 ∧ f5.offset = 17) ∧
  (P.cellsOf f0.type = 1 ∧ P.cellsOf f1.type = 7 ∧ P.cellsOf f2.type = 7 ∧ P.cellsOf f3.type = 1 ∧ P.cellsOf f4.type = 1 ∧ P.cellsOf f5.type = 1 ∧ P.cellsOf t = 18) ∧
  P.underlying f0.type = some .string ∧ PatTy P f1.type ∧ PatTy P f2.type ∧ (P.underlying f3.type = some (.slice es) ∧ P.cellsOf es = 2 ∧ SndTy P es) ∧ (P.underlying f4.type = some (.slice eo) ∧ P.cellsOf eo = 6 ∧ OutTy P eo) ∧ P.underlying f5.type = some (.int .i64)
theorem open_law_t {t : TypeId} (T : LawTy P t) {fuel : Nat} {cs : List Value} {y : DataW H × List MemPlace} (h : DataW.trod enc P W 0 (fun _ => true) true fuel t cs = some y) : ∃ l : Lw, LawC W W.heap.size l cs ∧ l.name.size ≤ maxLen := by
  obtain ⟨f0, f1, f2, f3, f4, f5, es, eo, hu, ⟨o0, o1, o2, o3, o4, o5⟩, ⟨c0, c1, c2, c3, c4, c5, c6⟩, u0, u1, u2, ⟨u3, cs3, t3⟩, ⟨u4, cs4, t4⟩, u5⟩ := T
  obtain ⟨xs, n, _, _, hl, hlen, hf⟩ := DataW.trod_struct hu h
  rw [c6] at hl
  match xs, hlen, cs, hl with
  | [y0, y1, y2, y3, y4, y5], _, [v0, v1, v2, v3, v4, v5, v6, v7, v8, v9, v10, v11, v12, v13, v14, v15, v16, v17], _ =>
    have k0 := hf 0 f0 rfl
    have k1 := hf 1 f1 rfl
    have k2 := hf 2 f2 rfl
    have k3 := hf 3 f3 rfl
    have k4 := hf 4 f4 rfl
    have k5 := hf 5 f5 rfl
    simp [o0, o1, o2, o3, o4, o5, c0, c1, c2, c3, c4, c5] at k0 k1 k2 k3 k4 k5
    obtain ⟨nm, e0, _, hnm⟩ := DataW.trod_string u0 k0
    obtain ⟨left, hleft⟩ := open_pat_t u1 _ _ _ k1
    obtain ⟨right, hright⟩ := open_pat_t u2 _ _ _ k2
    obtain ⟨A3, n3, q3, ifs, e3, rfl, r3, ok3, l3, m3⟩ := open_rows_t (by decide) sndC (fun _ => rfl) ok32 u3 cs3 (fun n cs y hh => open_snd_t t3 hh) k3
    obtain ⟨A4, n4, q4, outs, e4, rfl, r4, ok4, l4, m4⟩ := open_rows_t (by decide) outC (fun _ => rfl) (fun x => is32 x.clear ∧ ok32 x.set ∧ is32 x.take) u4 cs4 (fun n cs y hh => open_out_t t4 hh) k4
    obtain ⟨mo, e5, _, _⟩ := DataW.trod_int u5 k5
    simp only [List.cons.injEq, and_true] at e0 e3 e4 e5
    subst e0 e3 e4 e5
    exact ⟨⟨nm, left, right, ifs, outs, mo⟩, ⟨_, _, A3, q3, A4, q4, rfl, hleft, hright, r3, r4, ok3, ok4, Nat.le_trans l3 m3, Nat.le_trans l4 m4⟩, hnm⟩
end
theorem sndTy : SndTy Tryz.prog 55 := ⟨_, _, Tryz.underlying55, ⟨rfl, rfl⟩, ⟨by kernel_rfl, by kernel_rfl, by kernel_rfl⟩, Tryz.underlying42, Tryz.underlying42⟩
theorem patTy : PatTy Tryz.prog 58 := ⟨_, _, _, _, _, _, Tryz.underlying58, ⟨rfl, rfl, rfl, rfl, rfl, rfl⟩, ⟨by kernel_rfl, by kernel_rfl, by kernel_rfl, by kernel_rfl, by kernel_rfl, by kernel_rfl, by kernel_rfl⟩,
  Tryz.underlying3, sndTy, Tryz.underlying4, Tryz.underlying3, Tryz.underlying3, Tryz.underlying56⟩
theorem outTy : OutTy Tryz.prog 90 := ⟨_, _, _, _, _, Tryz.underlying90, ⟨rfl, rfl, rfl, rfl, rfl⟩, ⟨by kernel_rfl, by kernel_rfl, by kernel_rfl, by kernel_rfl, by kernel_rfl, by kernel_rfl⟩,
  Tryz.underlying3, Tryz.underlying42, sndTy, Tryz.underlying42, Tryz.underlying3⟩
theorem lawTy : LawTy Tryz.prog 62 := ⟨_, _, _, _, _, _, _, _, Tryz.underlying62, ⟨rfl, rfl, rfl, rfl, rfl, rfl⟩, ⟨by kernel_rfl, by kernel_rfl, by kernel_rfl, by kernel_rfl, by kernel_rfl, by kernel_rfl, by kernel_rfl⟩,
  Tryz.underlying9, patTy, patTy, ⟨Tryz.underlying59, by kernel_rfl, sndTy⟩, ⟨Tryz.underlying60, by kernel_rfl, outTy⟩, Tryz.underlying3⟩
end Go.Proofs.YtmepaeahchiglaaGreatDoor
namespace Go.Proofs.YtmepaeahchiglaaGreatDoor
open Go.ChangeShapes Go.WideShapes Go.ChangeAt Go.RowKit

section
variable {H : Type} {enc : TypeId × Value → H} {P : Program} {W : World}
theorem rowsC_of {α : Type} {Q : World → Nat → α → List Value → Prop} {w : World} {B : Nat} (q : Nat → α) (z : Nat → List Value) : ∀ L : List Nat, (∀ i ∈ L, Q w B (q i) (z i)) → RowsC Q w B (L.map q) (L.flatMap z)
  | [], _ => rfl
  | i :: L, h => ⟨z i, L.flatMap z, rfl, h i List.mem_cons_self, rowsC_of q z L fun j hj => h j (List.mem_cons_of_mem _ hj)⟩
/-- A slice of elements that can be opened. -/
theorem open_slC {α : Type} [Inhabited α] {t e : TypeId} {k : Nat} (hk : 0 < k) (Q : World → Nat → α → List Value → Prop) (ok : α → Prop) (ht : P.underlying t = some (.slice e)) (ce : P.cellsOf e = k)
    (ho : ∀ (n : Nat) (cs : List Value) (y : DataW H × List MemPlace), DataW.trod enc P W 0 (fun _ => true) true n e cs = some y → ∃ x : α, Q W W.heap.size x cs ∧ ok x) {fuel : Nat} {cs : List Value} {x : DataW H × List MemPlace}
    (h : DataW.trod enc P W 0 (fun _ => true) true fuel t cs = some x) :
    ∃ (v : Value) (l : List α), cs = [v] ∧ SlC Q k W W.heap.size l v ∧ ∀ y ∈ l, ok y := by
  rcases Go.Deep.open_slice ht h with ⟨rfl, _⟩ | ⟨a, len, cap, m, n, D, Pl, rfl, hb, hl, hm, hmm, rfl, hx⟩
  · exact ⟨_, [], rfl, ⟨none, 0, [], rfl, ⟨by simp, by unfold maxLen; omega⟩, Reads.none_, rfl⟩, fun s hs => by cases hs⟩
  · simp only [if_true] at hmm
    subst hmm
    have each : ∀ i, i < m → ∃ q : α × List Value, Q W W.heap.size q.1 q.2 ∧ ok q.1 ∧ q.2.length = k ∧ ∀ j u, q.2[j]? = some u → W.cell? (a.add (i * k + j)) = some u := by
      intro i hi
      obtain ⟨cs', h1, h2⟩ := hx i hi
      rw [ce] at h1
      obtain ⟨_, hlen, hcell⟩ := World.cells?_some h1
      obtain ⟨q, hq, hq2⟩ := ho _ _ _ h2
      refine ⟨(q, _), hq, hq2, by simpa using hlen, fun j u hu => ?_⟩
      have hj : j < k := by have := (List.getElem?_eq_some_iff.1 hu).1; simp at this; omega
      have := hcell j hj
      rw [Go.Deep.add_add] at this
      rw [this]; exact hu
    obtain ⟨q, hq⟩ := Go.Deep.choose_lt each
    have hz : ∀ i, ((fun i => if i < len then (q i).2 else List.replicate k (.bool false)) i).length = k := fun i => by
      by_cases h : i < len
      · simp only [if_pos h]; exact (hq i (by omega)).2.2.1
      · simp only [if_neg h]; simp
    refine ⟨_, (List.range len).map fun i => (q i).1, rfl, ⟨some a, m, (List.range len).flatMap fun i => if i < len then (q i).2 else List.replicate k (.bool false), by simp, ⟨by simpa using hl, hm⟩, ?_, ?_⟩, fun s hs => ?_⟩
    · rw [List.length_map, List.length_range]
      exact reads_rows hk _ hz fun i hi j u hu => by
        simp only [if_pos hi] at hu
        exact (hq i (by omega)).2.2.2 j u hu
    · exact rowsC_of (fun i => (q i).1) _ (List.range len) fun i hi => by
        have hi := List.mem_range.1 hi
        simp only [if_pos hi]
        exact (hq i (by omega)).1
    · obtain ⟨i, hi, rfl⟩ := List.mem_map.1 hs
      exact (hq i (by have := List.mem_range.1 hi; omega)).2.1
end
end Go.Proofs.YtmepaeahchiglaaGreatDoor
namespace Go.Proofs.YtmepaeahchiglaaGreatDoor
open Go.ChangeShapes Go.WideShapes Go.ChangeAt Go.RowKit

section
variable {H : Type} {enc : TypeId × Value → H} {P : Program} {W : World}
def NdTy (P : Program) (t : TypeId) : Prop := ∃ g0 g1 : Field, P.underlying t = some (.struct #[g0, g1]) ∧ (g0.offset = 0 ∧ g1.offset = 1) ∧ (P.cellsOf g0.type = 1 ∧ P.cellsOf g1.type = 1 ∧ P.cellsOf t = 2) ∧ P.underlying g0.type = some (.int .i64) ∧ P.underlying g1.type = some .string
theorem open_nd_t {t : TypeId} (T : NdTy P t) {fuel : Nat} {cs : List Value} {y : DataW H × List MemPlace} (h : DataW.trod enc P W 0 (fun _ => true) true fuel t cs = some y) : ∃ x : Nd, NdC W W.heap.size x cs ∧ x.2.size ≤ maxLen := by
  obtain ⟨g0, g1, hu, ⟨o0, o1⟩, ⟨c0, c1, c2⟩, u0, u1⟩ := T
  obtain ⟨xs, n, _, _, hl, hlen, hf⟩ := DataW.trod_struct hu h
  rw [c2] at hl
  match xs, hlen, cs, hl with
  | [y0, y1], _, [v0, v1], _ =>
    have k0 := hf 0 g0 rfl
    have k1 := hf 1 g1 rfl
    simp [o0, o1, c0, c1] at k0 k1
    obtain ⟨z0, e0, _, w0⟩ := DataW.trod_int u0 k0
    obtain ⟨nm, e1, _, hnm⟩ := DataW.trod_string u1 k1
    simp only [List.cons.injEq, and_true] at e0 e1
    subst e0 e1
    exact ⟨(z0, nm), rfl, hnm⟩
def NamTy (P : Program) (t : TypeId) : Prop := ∃ g0 g1 : Field, P.underlying t = some (.struct #[g0, g1]) ∧ (g0.offset = 0 ∧ g1.offset = 1) ∧ (P.cellsOf g0.type = 1 ∧ P.cellsOf g1.type = 2 ∧ P.cellsOf t = 3) ∧ P.underlying g0.type = some .string ∧ SndTy P g1.type
theorem open_nam_t {t : TypeId} (T : NamTy P t) {fuel : Nat} {cs : List Value} {y : DataW H × List MemPlace} (h : DataW.trod enc P W 0 (fun _ => true) true fuel t cs = some y) : ∃ x : Nam, NmdC W W.heap.size x cs ∧ x.1.size ≤ maxLen ∧ ok32 x.2 := by
  obtain ⟨g0, g1, hu, ⟨o0, o1⟩, ⟨c0, c1, c2⟩, u0, u1⟩ := T
  obtain ⟨xs, n, _, _, hl, hlen, hf⟩ := DataW.trod_struct hu h
  rw [c2] at hl
  match xs, hlen, cs, hl with
  | [y0, y1], _, [v0, v1, v2], _ =>
    have k0 := hf 0 g0 rfl
    have k1 := hf 1 g1 rfl
    simp [o0, o1, c0, c1] at k0 k1
    obtain ⟨nm, e0, _, hnm⟩ := DataW.trod_string u0 k0
    obtain ⟨s, e1, hs⟩ := open_snd_t u1 k1
    simp only [sndC, List.cons.injEq, and_true] at e0 e1
    obtain ⟨rfl, rfl⟩ := e1
    subst e0
    exact ⟨(nm, s), rfl, hnm, hs⟩
def FmTy (P : Program) (t : TypeId) : Prop := ∃ g0 g1 : Field, ∃ es : TypeId, P.underlying t = some (.struct #[g0, g1]) ∧ (g0.offset = 0 ∧ g1.offset = 1) ∧ (P.cellsOf g0.type = 1 ∧ P.cellsOf g1.type = 1 ∧ P.cellsOf t = 2) ∧ P.underlying g0.type = some .bool ∧ (P.underlying g1.type = some (.slice es) ∧ P.cellsOf es = 2 ∧ SndTy P es)
theorem open_fm_t {t : TypeId} (T : FmTy P t) {fuel : Nat} {cs : List Value} {y : DataW H × List MemPlace} (h : DataW.trod enc P W 0 (fun _ => true) true fuel t cs = some y) : ∃ x : Fm, FormC W W.heap.size x cs ∧ ∀ s ∈ x.w, ok32 s := by
  obtain ⟨g0, g1, es, hu, ⟨o0, o1⟩, ⟨c0, c1, c2⟩, u0, ⟨u1, cs1, t1⟩⟩ := T
  obtain ⟨xs, n, _, _, hl, hlen, hf⟩ := DataW.trod_struct hu h
  rw [c2] at hl
  match xs, hlen, cs, hl with
  | [y0, y1], _, [v0, v1], _ =>
    have k0 := hf 0 g0 rfl
    have k1 := hf 1 g1 rfl
    simp [o0, o1, c0, c1] at k0 k1
    obtain ⟨b, e0, _⟩ := DataW.trod_bool u0 k0
    obtain ⟨v, l, e1, hs, hok⟩ := open_slC (by decide) SndCC ok32 u1 cs1 (fun n cs y hh => open_snd_t t1 hh) k1
    simp only [List.cons.injEq, and_true] at e0 e1
    subst e0 e1
    exact ⟨⟨b, l⟩, ⟨_, rfl, hs⟩, hok⟩
instance : Inhabited Fm := ⟨⟨false, []⟩⟩
instance : Inhabited En := ⟨⟨⟨#[]⟩, []⟩⟩
def EnTy (P : Program) (t : TypeId) : Prop := ∃ g0 g1 : Field, ∃ es : TypeId, P.underlying t = some (.struct #[g0, g1]) ∧ (g0.offset = 0 ∧ g1.offset = 1) ∧ (P.cellsOf g0.type = 1 ∧ P.cellsOf g1.type = 1 ∧ P.cellsOf t = 2) ∧ P.underlying g0.type = some .string ∧ (P.underlying g1.type = some (.slice es) ∧ P.cellsOf es = 2 ∧ FmTy P es)
theorem open_en_t {t : TypeId} (T : EnTy P t) {fuel : Nat} {cs : List Value} {y : DataW H × List MemPlace} (h : DataW.trod enc P W 0 (fun _ => true) true fuel t cs = some y) : ∃ x : En, EnC W W.heap.size x cs ∧ (x.gloss.size ≤ maxLen ∧ ∀ f ∈ x.forms, ∀ s ∈ f.w, ok32 s) := by
  obtain ⟨g0, g1, es, hu, ⟨o0, o1⟩, ⟨c0, c1, c2⟩, u0, ⟨u1, cs1, t1⟩⟩ := T
  obtain ⟨xs, n, _, _, hl, hlen, hf⟩ := DataW.trod_struct hu h
  rw [c2] at hl
  match xs, hlen, cs, hl with
  | [y0, y1], _, [v0, v1], _ =>
    have k0 := hf 0 g0 rfl
    have k1 := hf 1 g1 rfl
    simp [o0, o1, c0, c1] at k0 k1
    obtain ⟨nm, e0, _, hnm⟩ := DataW.trod_string u0 k0
    obtain ⟨v, l, e1, hs, hok⟩ := open_slC (by decide) FormC (fun f => ∀ s ∈ f.w, ok32 s) u1 cs1 (fun n cs y hh => open_fm_t t1 hh) k1
    simp only [List.cons.injEq, and_true] at e0 e1
    subst e0 e1
    exact ⟨⟨nm, l⟩, ⟨_, rfl, hs⟩, hnm, hok⟩
end
end Go.Proofs.YtmepaeahchiglaaGreatDoor
namespace Go.Proofs.YtmepaeahchiglaaGreatDoor
open Go.ChangeShapes Go.WideShapes Go.ChangeAt Go.RowKit

section
variable {H : Type} {enc : TypeId × Value → H} {P : Program} {W : World}
def MkTy (P : Program) (t : TypeId) : Prop := ∃ g0 g1 g2 : Field, P.underlying t = some (.struct #[g0, g1, g2]) ∧ (g0.offset = 0 ∧ g1.offset = 1 ∧ g2.offset = 2) ∧ (P.cellsOf g0.type = 1 ∧ P.cellsOf g1.type = 1 ∧ P.cellsOf g2.type = 2 ∧ P.cellsOf t = 4) ∧ P.underlying g0.type = some .string ∧ P.underlying g1.type = some (.int .u32) ∧ SndTy P g2.type
theorem open_mk_t {t : TypeId} (T : MkTy P t) {fuel : Nat} {cs : List Value} {y : DataW H × List MemPlace} (h : DataW.trod enc P W 0 (fun _ => true) true fuel t cs = some y) : ∃ x : Mk, MkdC W W.heap.size x cs ∧ okMk x := by
  obtain ⟨g0, g1, g2, hu, ⟨o0, o1, o2⟩, ⟨c0, c1, c2, c3⟩, u0, u1, u2⟩ := T
  obtain ⟨xs, n, _, _, hl, hlen, hf⟩ := DataW.trod_struct hu h
  rw [c3] at hl
  match xs, hlen, cs, hl with
  | [y0, y1, y2], _, [v0, v1, v2, v3], _ =>
    have k0 := hf 0 g0 rfl
    have k1 := hf 1 g1 rfl
    have k2 := hf 2 g2 rfl
    simp [o0, o1, o2, c0, c1, c2] at k0 k1 k2
    obtain ⟨nm, e0, _, hnm⟩ := DataW.trod_string u0 k0
    obtain ⟨z1, e1, _, w1⟩ := DataW.trod_int u1 k1
    obtain ⟨s, e2, hs⟩ := open_snd_t u2 k2
    simp only [sndC, List.cons.injEq, and_true] at e0 e1 e2
    obtain ⟨rfl, rfl⟩ := e2
    subst e0 e1
    obtain ⟨m1, rfl, l1⟩ := u32_of_wf w1
    exact ⟨⟨nm, m1, s⟩, rfl, l1, hs, hnm⟩
theorem open_str_t {t : TypeId} (T : P.underlying t = some .string) {fuel : Nat} {cs : List Value} {y : DataW H × List MemPlace} (h : DataW.trod enc P W 0 (fun _ => true) true fuel t cs = some y) : ∃ x : ByteArray, StrC W W.heap.size x cs ∧ x.size ≤ maxLen := by
  obtain ⟨nm, e0, _, hnm⟩ := DataW.trod_string T h
  exact ⟨nm, e0, hnm⟩
theorem open_int_t {t : TypeId} (T : P.underlying t = some (.int .i64)) {fuel : Nat} {cs : List Value} {y : DataW H × List MemPlace} (h : DataW.trod enc P W 0 (fun _ => true) true fuel t cs = some y) : ∃ x : Int, IntC W W.heap.size x cs ∧ True := by
  obtain ⟨k, e0, _, _⟩ := DataW.trod_int T h
  exact ⟨k, e0, trivial⟩
theorem open_on_t {t e : TypeId} (T : P.underlying t = some (.slice e)) (ce : P.cellsOf e = 1) (T2 : P.underlying e = some (.int .i64)) {fuel : Nat} {cs : List Value} {y : DataW H × List MemPlace} (h : DataW.trod enc P W 0 (fun _ => true) true fuel t cs = some y) : ∃ x : List Int, OnC W W.heap.size x cs ∧ True := by
  obtain ⟨v, l, e1, hs, -⟩ := open_slC (by decide) IntC (fun _ => True) T ce (fun n cs y hh => open_int_t T2 hh) h
  exact ⟨l, ⟨v, e1, hs⟩, trivial⟩
def ok32L (l : Lw) : Prop := ∀ x ∈ l.outs, is32 x.clear ∧ ok32 x.set ∧ is32 x.take
instance : Inhabited Lw := ⟨⟨⟨#[]⟩, .mk 1 (0, 0) false 0 0 [], .mk 1 (0, 0) false 0 0 [], [], [], 1⟩⟩
def HistTy (P : Program) (t : TypeId) : Prop := ∃ g0 g1 g2 : Field, ∃ e0 e1 e2 e3 : TypeId, P.underlying t = some (.struct #[g0, g1, g2]) ∧ (g0.offset = 0 ∧ g1.offset = 1 ∧ g2.offset = 2) ∧ (P.cellsOf g0.type = 1 ∧ P.cellsOf g1.type = 1 ∧ P.cellsOf g2.type = 1 ∧ P.cellsOf t = 3) ∧
  (P.underlying g0.type = some (.slice e0) ∧ P.cellsOf e0 = 2 ∧ NdTy P e0) ∧ (P.underlying g1.type = some (.slice e1) ∧ P.cellsOf e1 = 18 ∧ LawTy P e1) ∧ (P.underlying g2.type = some (.slice e2) ∧ P.cellsOf e2 = 1 ∧ P.underlying e2 = some (.slice e3) ∧ P.cellsOf e3 = 1 ∧ P.underlying e3 = some (.int .i64))
theorem open_hist_t {t : TypeId} (T : HistTy P t) {fuel : Nat} {cs : List Value} {y : DataW H × List MemPlace} (h : DataW.trod enc P W 0 (fun _ => true) true fuel t cs = some y) : ∃ (v4 v5 v6 : Value) (tr : List Nd) (laws : List Lw) (on : List (List Int)), cs = [v4, v5, v6] ∧
    (SlC NdC 2 W W.heap.size tr v4 ∧ ∀ x ∈ tr, x.2.size ≤ maxLen) ∧ (SlC LawC 18 W W.heap.size laws v5 ∧ ∀ l ∈ laws, l.name.size ≤ maxLen) ∧ SlC OnC 1 W W.heap.size on v6 := by
  obtain ⟨g0, g1, g2, q0, q1, q2, q3, hu, ⟨o0, o1, o2⟩, ⟨c0, c1, c2, c3⟩, ⟨u0, d0, t0⟩, ⟨u1, d1, t1⟩, ⟨u2, d2, u3, d3, u4⟩⟩ := T
  obtain ⟨xs, n, _, _, hl, hlen, hf⟩ := DataW.trod_struct hu h
  rw [c3] at hl
  match xs, hlen, cs, hl with
  | [y0, y1, y2], _, [v0, v1, v2], _ =>
    have k0 := hf 0 g0 rfl
    have k1 := hf 1 g1 rfl
    have k2 := hf 2 g2 rfl
    simp [o0, o1, o2, c0, c1, c2] at k0 k1 k2
    obtain ⟨w0, l0, e0, s0, b0⟩ := open_slC (by decide) NdC (fun x => x.2.size ≤ maxLen) u0 d0 (fun n cs y hh => open_nd_t t0 hh) k0
    obtain ⟨w1, l1, e1, s1, b1⟩ := open_slC (by decide) LawC (fun l => l.name.size ≤ maxLen) u1 d1 (fun n cs y hh => open_law_t t1 hh) k1
    obtain ⟨w2, l2, e2, s2, -⟩ := open_slC (by decide) OnC (fun _ => True) u2 d2 (fun n cs y hh => open_on_t u3 d3 u4 hh) k2
    simp only [List.cons.injEq, and_true] at e0 e1 e2
    subst e0 e1 e2
    exact ⟨_, _, _, l0, l1, l2, rfl, ⟨s0, b0⟩, ⟨s1, b1⟩, s2⟩
end
end Go.Proofs.YtmepaeahchiglaaGreatDoor
namespace Go.Proofs.YtmepaeahchiglaaGreatDoor
open Go.ChangeShapes Go.WideShapes Go.ChangeAt Go.RowKit

section
variable {H : Type} {enc : TypeId × Value → H} {P : Program} {W : World}
def ProjTy (P : Program) (t : TypeId) : Prop := ∃ g0 g1 g2 g3 g4 g5 : Field, ∃ e0 e1 e2 e4 e5 : TypeId, P.underlying t = some (.struct #[g0, g1, g2, g3, g4, g5]) ∧ (g0.offset = 0 ∧ g1.offset = 1 ∧ g2.offset = 2 ∧ g3.offset = 3 ∧ g4.offset = 6 ∧ g5.offset = 7) ∧
  (P.cellsOf g0.type = 1 ∧ P.cellsOf g1.type = 1 ∧ P.cellsOf g2.type = 1 ∧ P.cellsOf g3.type = 3 ∧ P.cellsOf g4.type = 1 ∧ P.cellsOf g5.type = 1 ∧ P.cellsOf t = 8) ∧
  (P.underlying g0.type = some (.slice e0) ∧ P.cellsOf e0 = 1 ∧ P.underlying e0 = some .string) ∧ (P.underlying g1.type = some (.slice e1) ∧ P.cellsOf e1 = 3 ∧ NamTy P e1) ∧ (P.underlying g2.type = some (.slice e2) ∧ P.cellsOf e2 = 4 ∧ MkTy P e2) ∧ HistTy P g3.type ∧
  (P.underlying g4.type = some (.slice e4) ∧ P.cellsOf e4 = 2 ∧ FmTy P e4) ∧ (P.underlying g5.type = some (.slice e5) ∧ P.cellsOf e5 = 2 ∧ EnTy P e5)
theorem open_proj_t {t : TypeId} (T : ProjTy P t) {fuel : Nat} {cs : List Value} {y : DataW H × List MemPlace} (h : DataW.trod enc P W 0 (fun _ => true) true fuel t cs = some y) :
    ∃ p : Pj, ProjC W W.heap.size p cs ∧ ((∀ l ∈ p.on, l.length ≤ 1000000000) → PjRd p) := by
  obtain ⟨g0, g1, g2, g3, g4, g5, q0, q1, q2, q4, q5, hu, ⟨o0, o1, o2, o3, o4, o5⟩, ⟨c0, c1, c2, c3, c4, c5, c6⟩, ⟨u0, d0, t0⟩, ⟨u1, d1, t1⟩, ⟨u2, d2, t2⟩, u3, ⟨u4, d4, t4⟩, ⟨u5, d5, t5⟩⟩ := T
  obtain ⟨xs, n, _, _, hl, hlen, hf⟩ := DataW.trod_struct hu h
  rw [c6] at hl
  match xs, hlen, cs, hl with
  | [y0, y1, y2, y3, y4, y5], _, [v0, v1, v2, v3, v4, v5, v6, v7], _ =>
    have k0 := hf 0 g0 rfl
    have k1 := hf 1 g1 rfl
    have k2 := hf 2 g2 rfl
    have k3 := hf 3 g3 rfl
    have k4 := hf 4 g4 rfl
    have k5 := hf 5 g5 rfl
    simp [o0, o1, o2, o3, o4, o5, c0, c1, c2, c3, c4, c5] at k0 k1 k2 k3 k4 k5
    obtain ⟨w0, l0, e0, s0, b0⟩ := open_slC (by decide) StrC (fun x => x.size ≤ maxLen) u0 d0 (fun n cs y hh => open_str_t t0 hh) k0
    obtain ⟨w1, l1, e1, s1, b1⟩ := open_slC (by decide) NmdC (fun x => x.1.size ≤ maxLen ∧ ok32 x.2) u1 d1 (fun n cs y hh => open_nam_t t1 hh) k1
    obtain ⟨w2, l2, e2, s2, b2⟩ := open_slC (by decide) MkdC okMk u2 d2 (fun n cs y hh => open_mk_t t2 hh) k2
    obtain ⟨x4, x5, x6, tr, laws, on, e3, ⟨s4, b4⟩, ⟨s5, b5⟩, s6⟩ := open_hist_t u3 k3
    obtain ⟨w7, l7, e7, s7, b7⟩ := open_slC (by decide) FormC (fun f => ∀ s ∈ f.w, ok32 s) u4 d4 (fun n cs y hh => open_fm_t t4 hh) k4
    obtain ⟨w8, l8, e8, s8, b8⟩ := open_slC (by decide) EnC (fun x => x.gloss.size ≤ maxLen ∧ ∀ f ∈ x.forms, ∀ s ∈ f.w, ok32 s) u5 d5 (fun n cs y hh => open_en_t t5 hh) k5
    simp only [List.cons.injEq, and_true] at e0 e1 e2 e3 e7 e8
    obtain ⟨rfl, rfl, rfl⟩ := e3
    subst e0 e1 e2 e7 e8
    exact ⟨⟨l0, l1, l2, tr, laws, on, l7, l8⟩, ⟨_, _, _, _, _, _, _, _, rfl, s0, s1, s2, s4, s5, s6, s7, s8⟩, fun hon => ⟨b0, b1, b2, b4, b5, hon, b7, b8⟩⟩
/-- The laws' numbers have 32 bits. -/
theorem laws_32 {w : World} {B : Nat} : ∀ {l : List Lw} {xs : List Value}, RowsC LawC w B l xs → ∀ x ∈ l, ok32L x
  | [], _, _, x, hx => by cases hx
  | y :: l, _, ⟨c1, c2, _, h1, h2⟩, x, hx => by
    rcases List.mem_cons.1 hx with rfl | hx
    · exact law_s32 h1
    · exact laws_32 h2 x hx
theorem proj_32 {w : World} {B : Nat} {p : Pj} {cs : List Value} (h : ProjC w B p cs) : ∀ l ∈ p.laws, ∀ x ∈ l.outs, is32 x.clear ∧ ok32 x.set ∧ is32 x.take := by
  obtain ⟨_, _, _, _, _, _, _, _, _, _, _, _, _, h5, _⟩ := h
  obtain ⟨_, _, _, _, _, _, h⟩ := h5
  exact fun l hl => laws_32 h l hl
theorem open_proj {t : TypeId} (T : ProjTy P t) {b0 : Nat} {v : Value} {d : DataW H} {ps : List MemPlace} (hval : Value.okWide P W .any b0 t v) (h : DataW.Trod enc P W 0 (fun _ => true) true t v d ps) : ∃ (p : Pj) (cs : List Value), v = .agg cs.toArray ∧ ProjC W W.heap.size p cs ∧ ((∀ l ∈ p.on, l.length ≤ 1000000000) → PjRd p) := by
  have T' := T
  obtain ⟨g0, g1, g2, g3, g4, g5, q0, q1, q2, q4, q5, hu, -⟩ := T'
  obtain ⟨cs, rfl, _⟩ := okWide_struct hu hval
  obtain ⟨fuel, hf⟩ := h
  obtain ⟨p, h1, h2⟩ := open_proj_t T hf
  exact ⟨p, cs.toList, by simp, by simpa [Value.cells] using h1, h2⟩
end
theorem ndTy : NdTy Tryz.prog 78 := ⟨_, _, Tryz.underlying78, ⟨rfl, rfl⟩, ⟨by kernel_rfl, by kernel_rfl, by kernel_rfl⟩, Tryz.underlying3, Tryz.underlying9⟩
theorem namTy : NamTy Tryz.prog 74 := ⟨_, _, Tryz.underlying74, ⟨rfl, rfl⟩, ⟨by kernel_rfl, by kernel_rfl, by kernel_rfl⟩, Tryz.underlying9, sndTy⟩
theorem mkTy : MkTy Tryz.prog 76 := ⟨_, _, _, Tryz.underlying76, ⟨rfl, rfl, rfl⟩, ⟨by kernel_rfl, by kernel_rfl, by kernel_rfl, by kernel_rfl⟩, Tryz.underlying9, Tryz.underlying42, sndTy⟩
theorem fmTy : FmTy Tryz.prog 82 := ⟨_, _, _, Tryz.underlying82, ⟨rfl, rfl⟩, ⟨by kernel_rfl, by kernel_rfl, by kernel_rfl⟩, Tryz.underlying4, ⟨Tryz.underlying59, by kernel_rfl, sndTy⟩⟩
theorem enTy : EnTy Tryz.prog 84 := ⟨_, _, _, Tryz.underlying84, ⟨rfl, rfl⟩, ⟨by kernel_rfl, by kernel_rfl, by kernel_rfl⟩, Tryz.underlying9, ⟨Tryz.underlying30, by kernel_rfl, fmTy⟩⟩
end Go.Proofs.YtmepaeahchiglaaGreatDoor
namespace Go.Proofs.YtmepaeahchiglaaGreatDoor
open Go.ChangeShapes Go.WideShapes Go.ChangeAt Go.RowKit

theorem histTy : HistTy Tryz.prog 29 := ⟨_, _, _, _, _, _, _, Tryz.underlying29, ⟨rfl, rfl, rfl⟩, ⟨by kernel_rfl, by kernel_rfl, by kernel_rfl, by kernel_rfl⟩,
  ⟨Tryz.underlying25, by kernel_rfl, ndTy⟩, ⟨Tryz.underlying26, by kernel_rfl, lawTy⟩, ⟨Tryz.underlying27, by kernel_rfl, Tryz.underlying144, by kernel_rfl, Tryz.underlying3⟩⟩
theorem projTy : ProjTy Tryz.prog 33 := ⟨_, _, _, _, _, _, _, _, _, _, _, Tryz.underlying33, ⟨rfl, rfl, rfl, rfl, rfl, rfl⟩, ⟨by kernel_rfl, by kernel_rfl, by kernel_rfl, by kernel_rfl, by kernel_rfl, by kernel_rfl, by kernel_rfl⟩,
  ⟨Tryz.underlying22, by kernel_rfl, Tryz.underlying9⟩, ⟨Tryz.underlying23, by kernel_rfl, namTy⟩, ⟨Tryz.underlying24, by kernel_rfl, mkTy⟩, histTy, ⟨Tryz.underlying30, by kernel_rfl, fmTy⟩, ⟨Tryz.underlying31, by kernel_rfl, enTy⟩⟩
end Go.Proofs.YtmepaeahchiglaaGreatDoor
