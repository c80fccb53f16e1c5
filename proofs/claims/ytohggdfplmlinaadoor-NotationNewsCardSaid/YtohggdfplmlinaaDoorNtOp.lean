/-
  Arguments opened: sounds, words, named sounds, marks, cases. Conditions: none.
-/
import Derived.Test.YtohggdfplmlinaaDoorOpen
import Derived.Test.YtohggdfplmlinaaDoorFlat
import Derived.Test.YtohggdfplmlinaaDoorNtZ
import Derived.Deep.Slices
import Derived.Deep.Fields
import Derived.Lib.SmallJoins
namespace Go.Proofs.YtohggdfplmlinaaDoor
open Go.ChangeShapes Go.WideShapes Go.ChangeAt Go.RowKit

theorem u32_of_wf {x : Int} (h : (Lit.int .u32 x).wf = true) : ∃ n : Nat, x = n ∧ is32 n := by
  simp only [Lit.wf, Bool.and_eq_true, decide_eq_true_eq] at h
  have h1 : IntKind.u32.min = 0 := rfl
  have h2 : IntKind.u32.max = 4294967295 := rfl
  rw [h1, h2] at h
  exact ⟨x.toNat, by omega, by unfold is32; omega⟩
section
variable {H : Type} {enc : TypeId × Value → H} {P : Program} {W : World}
def SndTy (P : Program) (t : TypeId) : Prop := ∃ g0 g1 : Field, P.underlying t = some (.struct #[g0, g1]) ∧ (g0.offset = 0 ∧ g1.offset = 1) ∧ (P.cellsOf g0.type = 1 ∧ P.cellsOf g1.type = 1 ∧ P.cellsOf t = 2) ∧ P.underlying g0.type = some (.int .u32) ∧ P.underlying g1.type = some (.int .u32)
theorem open_snd_t {t : TypeId} (T : SndTy P t) {fuel : Nat} {cs : List Value} {y : DataW H × List MemPlace} (h : DataW.trod enc P W 0 (fun _ => true) true fuel t cs = some y) : ∃ s : Snd, cs = sndC s ∧ ok32 s := by
  obtain ⟨g0, g1, hu, ⟨o0, o1⟩, ⟨c0, c1, c2⟩, u0, u1⟩ := T
  obtain ⟨xs, n, _, _, hl, hlen, hf⟩ := DataW.trod_struct hu h
  rw [c2] at hl
  match xs, hlen, cs, hl with
  | [y0, y1], _, [v0, v1], _ =>
    have k0 := hf 0 g0 rfl
    have k1 := hf 1 g1 rfl
    simp [o0, o1, c0, c1] at k0 k1
    obtain ⟨z0, e0, _, w0⟩ := DataW.trod_int u0 k0
    obtain ⟨z1, e1, _, w1⟩ := DataW.trod_int u1 k1
    simp only [List.cons.injEq, and_true] at e0 e1
    subst e0 e1
    obtain ⟨m0, rfl, l0⟩ := u32_of_wf w0
    obtain ⟨m1, rfl, l1⟩ := u32_of_wf w1
    exact ⟨(m0, m1), rfl, l0, l1⟩
/-- The rows of a slice, read. -/
theorem reads_rows {w : World} {a : Addr} {k len : Nat} (hk : 0 < k) (z : Nat → List Value) (hz : ∀ i, (z i).length = k) (h : ∀ i, i < len → ∀ j u, (z i)[j]? = some u → w.cell? (a.add (i * k + j)) = some u) : Reads w w.heap.size k (some a) len ((List.range len).flatMap z) := by
  refine ⟨by rw [flatMap_len z k hz]; simp, fun hn => ⟨a, rfl, ?_, fun j u hu => ?_⟩⟩
  · have h0 : 0 < (z 0).length := by rw [hz]; exact hk
    have := lt_cell (h 0 hn 0 _ (List.getElem?_eq_getElem h0))
    rwa [block_of_add] at this
  · have hj : j < len * k := by
      have := (List.getElem?_eq_some_iff.1 hu).1
      rw [flatMap_len z k hz] at this; simpa using this
    rw [flatMap_get z k hz _ j (by simpa using hj)] at hu
    have hd : j / k < len := Nat.div_lt_of_lt_mul (by rw [Nat.mul_comm]; exact hj)
    have he : (List.range len)[j / k]! = j / k := by rw [getElem!_pos (List.range len) (j / k) (by simpa using hd)]; simp
    rw [he] at hu
    have hm : j % k < (z (j / k)).length := by rw [hz]; exact Nat.mod_lt _ hk
    rw [getElem!_pos (z (j / k)) (j % k) hm, ← List.getElem?_eq_getElem] at hu
    have := h (j / k) hd (j % k) u hu
    rwa [show j / k * k + j % k = j by rw [Nat.mul_comm]; exact Nat.div_add_mod j k] at this
theorem open_rows_t {α : Type} [Inhabited α] {t e : TypeId} {k : Nat} (hk : 0 < k) (f : α → List Value) (hf : ∀ x, (f x).length = k) (ok : α → Prop) (ht : P.underlying t = some (.slice e)) (ce : P.cellsOf e = k)
    (ho : ∀ (n : Nat) (cs : List Value) (y : DataW H × List MemPlace), DataW.trod enc P W 0 (fun _ => true) true n e cs = some y → ∃ x : α, cs = f x ∧ ok x) {fuel : Nat} {cs : List Value} {x : DataW H × List MemPlace}
    (h : DataW.trod enc P W 0 (fun _ => true) true fuel t cs = some x) :
    ∃ A n c, ∃ rs : List α, cs = [.slice A n c] ∧ rs.length = n ∧ Reads W W.heap.size k A n (rs.flatMap f) ∧ (∀ s ∈ rs, ok s) ∧ n ≤ c ∧ c ≤ maxLen := by
  rcases Go.Deep.open_slice ht h with ⟨rfl, _⟩ | ⟨a, len, cap, m, n, D, Pl, rfl, hb, hl, hm, hmm, rfl, hx⟩
  · exact ⟨none, 0, 0, [], rfl, rfl, Reads.none_, (fun s hs => by cases hs), by omega, by unfold maxLen; omega⟩
  · simp only [if_true] at hmm
    subst hmm
    have each : ∀ i, i < m → ∃ q : α, ok q ∧ ∀ j u, (f q)[j]? = some u → W.cell? (a.add (i * k + j)) = some u := by
      intro i hi
      obtain ⟨cs', h1, h2⟩ := hx i hi
      rw [ce] at h1
      obtain ⟨_, hlen, hcell⟩ := World.cells?_some h1
      obtain ⟨q, rfl, hq⟩ := ho _ _ _ h2
      refine ⟨q, hq, fun j u hu => ?_⟩
      have hj : j < k := by have := (List.getElem?_eq_some_iff.1 hu).1; omega
      have := hcell j hj
      rw [Go.Deep.add_add] at this
      rw [this]; exact hu
    obtain ⟨q, hq⟩ := Go.Deep.choose_lt each
    refine ⟨some a, len, m, (List.range len).map q, rfl, by simp, ?_, fun s hs => ?_, hl, hm⟩
    · rw [List.flatMap_map]
      exact reads_rows hk (fun i => f (q i)) (fun i => hf _) fun i hi => (hq i (by omega)).2
    · obtain ⟨i, hi, rfl⟩ := List.mem_map.1 hs
      exact (hq i (by have := List.mem_range.1 hi; omega)).1
def NamTy (P : Program) (t : TypeId) : Prop := ∃ f0 f1 : Field, P.underlying t = some (.struct #[f0, f1]) ∧ (f0.offset = 0 ∧ f1.offset = 1) ∧ (P.cellsOf f0.type = 1 ∧ P.cellsOf f1.type = 2 ∧ P.cellsOf t = 3) ∧ P.underlying f0.type = some .string ∧ SndTy P f1.type
theorem open_nam_t {t : TypeId} (T : NamTy P t) {fuel : Nat} {cs : List Value} {y : DataW H × List MemPlace} (h : DataW.trod enc P W 0 (fun _ => true) true fuel t cs = some y) : ∃ x : Nam, cs = namC x ∧ ok32 x.2 ∧ x.1.size ≤ maxLen := by
  obtain ⟨f0, f1, hu, ⟨o0, o1⟩, ⟨c0, c1, c2⟩, u0, u1⟩ := T
  obtain ⟨xs, n, _, _, hl, hlen, hf⟩ := DataW.trod_struct hu h
  rw [c2] at hl
  match xs, hlen, cs, hl with
  | [y0, y1], _, [v0, v1, v2], _ =>
    have k0 := hf 0 f0 rfl
    have k1 := hf 1 f1 rfl
    simp [o0, o1, c0, c1] at k0 k1
    obtain ⟨nm, e0, _, hnm⟩ := DataW.trod_string u0 k0
    obtain ⟨s, e1, hs⟩ := open_snd_t u1 k1
    simp only [sndC, List.cons.injEq, and_true] at e0 e1
    obtain ⟨rfl, rfl⟩ := e1
    subst e0
    exact ⟨(nm, s), rfl, hs, hnm⟩
def MkTy (P : Program) (t : TypeId) : Prop := ∃ f0 f1 f2 : Field, P.underlying t = some (.struct #[f0, f1, f2]) ∧ (f0.offset = 0 ∧ f1.offset = 1 ∧ f2.offset = 2) ∧ (P.cellsOf f0.type = 1 ∧ P.cellsOf f1.type = 1 ∧ P.cellsOf f2.type = 2 ∧ P.cellsOf t = 4) ∧ P.underlying f0.type = some .string ∧ P.underlying f1.type = some (.int .u32) ∧ SndTy P f2.type
theorem open_mk_t {t : TypeId} (T : MkTy P t) {fuel : Nat} {cs : List Value} {y : DataW H × List MemPlace} (h : DataW.trod enc P W 0 (fun _ => true) true fuel t cs = some y) : ∃ x : Mk, cs = markC x ∧ okMk x := by
  obtain ⟨f0, f1, f2, hu, ⟨o0, o1, o2⟩, ⟨c0, c1, c2, c3⟩, u0, u1, u2⟩ := T
  obtain ⟨xs, n, _, _, hl, hlen, hf⟩ := DataW.trod_struct hu h
  rw [c3] at hl
  match xs, hlen, cs, hl with
  | [y0, y1, y2], _, [v0, v1, v2, v3], _ =>
    have k0 := hf 0 f0 rfl
    have k1 := hf 1 f1 rfl
    have k2 := hf 2 f2 rfl
    simp [o0, o1, o2, c0, c1, c2] at k0 k1 k2
    obtain ⟨nm, e0, _, hnm⟩ := DataW.trod_string u0 k0
    obtain ⟨z1, e1, _, w1⟩ := DataW.trod_int u1 k1
    obtain ⟨s, e2, hs⟩ := open_snd_t u2 k2
    simp only [sndC, List.cons.injEq, and_true] at e0 e1 e2
    obtain ⟨rfl, rfl⟩ := e2
    subst e0 e1
    obtain ⟨m1, rfl, l1⟩ := u32_of_wf w1
    exact ⟨⟨nm, m1, s⟩, rfl, l1, hs, hnm⟩
theorem open_str_t {t : TypeId} (T : P.underlying t = some .string) {fuel : Nat} {cs : List Value} {y : DataW H × List MemPlace} (h : DataW.trod enc P W 0 (fun _ => true) true fuel t cs = some y) : ∃ x : ByteArray, cs = strC x ∧ x.size ≤ maxLen := by
  obtain ⟨nm, e0, _, hnm⟩ := DataW.trod_string T h
  exact ⟨nm, e0, hnm⟩
/-- A sound, a named sound by value. -/
theorem open_snd {t : TypeId} (T : SndTy P t) {b0 : Nat} {v : Value} {d : DataW H} {ps : List MemPlace} (hval : Value.okWide P W .any b0 t v) (h : DataW.Trod enc P W 0 (fun _ => true) true t v d ps) : ∃ s : Snd, v = sndV s ∧ ok32 s := by
  have T' := T
  obtain ⟨g0, g1, hu, -⟩ := T'
  obtain ⟨cs, rfl, _⟩ := okWide_struct hu hval
  obtain ⟨fuel, hf⟩ := h
  obtain ⟨s, h1, h2⟩ := open_snd_t T hf
  refine ⟨s, ?_, h2⟩
  have e : cs.toList = sndC s := by simpa [Value.cells] using h1
  have e2 : cs = (sndC s).toArray := by rw [← e]
  rw [e2]
theorem open_nam {t : TypeId} (T : NamTy P t) {b0 : Nat} {v : Value} {d : DataW H} {ps : List MemPlace} (hval : Value.okWide P W .any b0 t v) (h : DataW.Trod enc P W 0 (fun _ => true) true t v d ps) : ∃ x : Nam, v = namV x ∧ ok32 x.2 ∧ x.1.size ≤ maxLen := by
  have T' := T
  obtain ⟨g0, g1, hu, -⟩ := T'
  obtain ⟨cs, rfl, _⟩ := okWide_struct hu hval
  obtain ⟨fuel, hf⟩ := h
  obtain ⟨s, h1, h2⟩ := open_nam_t T hf
  refine ⟨s, ?_, h2⟩
  have e : cs.toList = namC s := by simpa [Value.cells] using h1
  have e2 : cs = (namC s).toArray := by rw [← e]
  rw [e2]
/-- A slice of such, by value. -/
theorem open_rows_v {α : Type} [Inhabited α] {k : Nat} (hk : 0 < k) (f : α → List Value) (hf : ∀ x, (f x).length = k) (ok : α → Prop) {t e : TypeId} (ht : P.underlying t = some (.slice e)) (ce : P.cellsOf e = k)
    (each : ∀ (n : Nat) (cs : List Value) (y : DataW H × List MemPlace), DataW.trod enc P W 0 (fun _ => true) true n e cs = some y → ∃ x : α, cs = f x ∧ ok x) {b0 : Nat} {v : Value} {d : DataW H} {ps : List MemPlace}
    (hval : Value.okWide P W .any b0 t v) (h : DataW.Trod enc P W 0 (fun _ => true) true t v d ps) :
    ∃ A n c, ∃ rs : List α, v = .slice A n c ∧ Reads W W.heap.size k A n (rs.flatMap f) ∧ (∀ x ∈ rs, ok x) ∧ n ≤ c ∧ c ≤ maxLen := by
  obtain ⟨A, n, c, rfl⟩ := okWide_slice ht hval
  obtain ⟨fuel, hg⟩ := h
  obtain ⟨A', n', c', rs, e1, h0, h1, h2, h3⟩ := open_rows_t hk f hf ok ht ce each hg
  simp [Value.cells] at e1
  obtain ⟨rfl, rfl, rfl⟩ := e1
  subst h0
  exact ⟨A, _, c, rs, rfl, h1, h2, h3⟩
end
set_option maxRecDepth 100000 in
theorem sndTy : SndTy Tryd.prog 39 := ⟨_, _, Tryd.underlying39, ⟨rfl, rfl⟩, ⟨by kernel_rfl, by kernel_rfl, by kernel_rfl⟩, Tryd.underlying37, Tryd.underlying37⟩
set_option maxRecDepth 100000 in
theorem namTy : NamTy Tryd.prog 41 := ⟨_, _, Tryd.underlying41, ⟨rfl, rfl⟩, ⟨by kernel_rfl, by kernel_rfl, by kernel_rfl⟩, Tryd.underlying9, sndTy⟩
set_option maxRecDepth 100000 in
theorem mkTy : MkTy Tryd.prog 58 := ⟨_, _, _, Tryd.underlying58, ⟨rfl, rfl, rfl⟩, ⟨by kernel_rfl, by kernel_rfl, by kernel_rfl, by kernel_rfl⟩, Tryd.underlying9, Tryd.underlying37, sndTy⟩
theorem flat_strC (l : List ByteArray) : l.flatMap strC = l.map Value.string := by
  induction l with
  | nil => rfl
  | cons a l ih => rw [List.flatMap_cons, List.map_cons, ih]; rfl
section
variable {H : Type} {enc : TypeId × Value → H} {W : World}
set_option maxRecDepth 100000 in
theorem open_word {b0 : Nat} {v : Value} {d : DataW H} {ps : List MemPlace} (hval : Value.okWide Tryd.prog W .any b0 32 v) (h : DataW.Trod enc Tryd.prog W 0 (fun _ => true) true 32 v d ps) :
    ∃ A n c, ∃ rs : List Snd, v = .slice A n c ∧ Reads W W.heap.size 2 A n (rs.flatMap sndC) ∧ (∀ s ∈ rs, ok32 s) ∧ n ≤ c ∧ c ≤ maxLen :=
  open_rows_v (k := 2) (by decide) sndC (fun _ => rfl) ok32 Tryd.underlying32 (by kernel_rfl) (fun n cs y hh => open_snd_t sndTy hh) hval h
set_option maxRecDepth 100000 in
theorem open_case {b0 : Nat} {v : Value} {d : DataW H} {ps : List MemPlace} (hval : Value.okWide Tryd.prog W .any b0 26 v) (h : DataW.Trod enc Tryd.prog W 0 (fun _ => true) true 26 v d ps) :
    ∃ A1 A2 A3 n1 c1 n2 c2 n3 c3 fs xs ms, v = caseV A1 A2 A3 n1 c1 n2 c2 n3 c3 ∧ CaseM W W.heap.size A1 A2 A3 n1 c1 n2 c2 n3 c3 fs xs ms := by
  obtain ⟨v0, v1, v2, y0, y1, y2, n, rfl, rfl, rfl, h0, h1, h2⟩ := Go.Joins.open_agg3 Tryd.underlying26 (by kernel_rfl) (by kernel_rfl) hval h
  obtain ⟨A1, n1, c1, fs, e1, z1, r1, o1, l1, m1⟩ := open_rows_t (k := 1) (by decide) strC (fun _ => rfl) (fun s => s.size ≤ maxLen) Tryd.underlying22 (by kernel_rfl) (fun n cs y hh => open_str_t Tryd.underlying9 hh) h0
  obtain ⟨A2, n2, c2, xs, e2, z2, r2, o2, l2, m2⟩ := open_rows_t (k := 3) (by decide) namC (fun _ => rfl) (fun x => ok32 x.2 ∧ x.1.size ≤ maxLen) Tryd.underlying23 (by kernel_rfl) (fun n cs y hh => open_nam_t namTy hh) h1
  obtain ⟨A3, n3, c3, ms, e3, z3, r3, o3, l3, m3⟩ := open_rows_t (k := 4) (by decide) markC (fun _ => rfl) okMk Tryd.underlying24 (by kernel_rfl) (fun n cs y hh => open_mk_t mkTy hh) h2
  simp only [List.cons.injEq, and_true] at e1 e2 e3
  subst e1 e2 e3 z1 z2 z3
  rw [flat_strC] at r1
  exact ⟨A1, A2, A3, _, c1, _, c2, _, c3, fs, xs, ms, rfl, Nat.le_refl _, r1, r2, r3, l1, ⟨l2, m2⟩, l3, o1, o2, o3⟩
end
end Go.Proofs.YtohggdfplmlinaaDoor
