/-
  Lists of rows of k cells each: plain facts. Conditions: none. Of no program.
-/
import Derived.Test.YtgimhjkijpcgjaaDoorGaa
import Derived.Deep.Slices
import Derived.Deep.Fields
import Derived.Lib.SmallJoins
namespace Go.Proofs.YtgimhjkijpcgjaaDoor
open Go.RowKit

section
variable {α : Type} [Inhabited α]
omit [Inhabited α] in
theorem flatMap_len (f : α → List Value) (k : Nat) (hk : ∀ x, (f x).length = k) (l : List α) : (l.flatMap f).length = l.length * k := by
  induction l with
  | nil => simp
  | cons x l ih => rw [List.flatMap_cons, List.length_append, hk, ih, List.length_cons, Nat.add_mul, Nat.one_mul, Nat.add_comm]
theorem flatMap_get (f : α → List Value) (k : Nat) (hk : ∀ x, (f x).length = k) (l : List α) : ∀ t, t < l.length * k → (l.flatMap f)[t]? = some ((f l[t / k]!)[t % k]!) := by
  induction l with
  | nil => intro t h; simp at h
  | cons x l ih =>
    intro t h
    rw [List.length_cons, Nat.add_mul, Nat.one_mul] at h
    have k0 : 0 < k := by
      rcases Nat.eq_zero_or_pos k with e | e
      · subst e; simp at h
      · exact e
    rw [List.flatMap_cons]
    rcases Nat.lt_or_ge t k with ht | ht
    · rw [List.getElem?_append_left (by rw [hk]; exact ht), Nat.div_eq_of_lt ht, Nat.mod_eq_of_lt ht]
      simp [getElem!_pos, hk, ht]
    · rw [List.getElem?_append_right (by rw [hk]; exact ht), hk, ih (t - k) (by omega)]
      have e1 : t / k = (t - k) / k + 1 := by
        conv => lhs; rw [show t = (t - k) + k by omega]
        rw [Nat.add_div_right _ k0]
      have e2 : t % k = (t - k) % k := by
        conv => lhs; rw [show t = (t - k) + k by omega]
        rw [Nat.add_mod_right]
      rw [e1, e2]
      simp
end
end Go.Proofs.YtgimhjkijpcgjaaDoor
namespace Go.Proofs.YtgimhjkijpcgjaaDoor
open Go.ChangeShapes Go.WideShapes Go.ChangeAt Go.RowKit

/-- Three integers as cells. -/
def v3 (r : Int × Int × Int) : List Value := [.int .i64 r.1, .int .i64 r.2.1, .int .i64 r.2.2]
section
variable {H : Type} {enc : TypeId × Value → H} {P : Program}
theorem open_rows3 {t e : TypeId} {f0 f1 f2 : Field} (ht : P.underlying t = some (.slice e)) (he : P.underlying e = some (.struct #[f0, f1, f2])) (hone : Go.Deep.oneCellFields P #[f0, f1, f2] = true) (ce : P.cellsOf e = 3)
    (u0 : P.underlying f0.type = some (.int .i64)) (u1 : P.underlying f1.type = some (.int .i64)) (u2 : P.underlying f2.type = some (.int .i64)) {W : World} {fuel : Nat} {cs : List Value} {x : DataW H × List MemPlace}
    (h : DataW.trod enc P W 0 (fun _ => true) true fuel t cs = some x) :
    ∃ A n c, ∃ rs : List (Int × Int × Int), cs = [.slice A n c] ∧ Reads W W.heap.size 3 A n (rs.flatMap v3) ∧ n ≤ c ∧ c ≤ maxLen := by
  rcases Go.Deep.open_slice ht h with ⟨rfl, _⟩ | ⟨a, len, cap, m, n, D, Pl, rfl, hb, hl, hm, hmm, rfl, hx⟩
  · exact ⟨none, 0, 0, [], rfl, Reads.none_, by omega, by unfold maxLen; omega⟩
  · simp only [if_true] at hmm
    subst hmm
    obtain ⟨o0, c0⟩ := Go.Deep.hone_of hone 0 f0 rfl
    obtain ⟨o1, c1⟩ := Go.Deep.hone_of hone 1 f1 rfl
    obtain ⟨o2, c2⟩ := Go.Deep.hone_of hone 2 f2 rfl
    have each : ∀ i, i < m → ∃ q : Int × Int × Int, ∀ j u, (v3 q)[j]? = some u → W.cell? (a.add (i * 3 + j)) = some u := by
      intro i hi
      obtain ⟨cs', h1, h2⟩ := hx i hi
      rw [ce] at h1
      obtain ⟨_, hlen, hcell⟩ := World.cells?_some h1
      obtain ⟨xs, k, hk, hxy, _, hxl, hf⟩ := DataW.trod_struct he h2
      match xs, hxl, cs', hlen with
      | [y0, y1, y2], _, [w0, w1, w2], _ =>
        have g0 := hf 0 f0 rfl
        have g1 := hf 1 f1 rfl
        have g2 := hf 2 f2 rfl
        simp [o0, o1, o2, c0, c1, c2] at g0 g1 g2
        obtain ⟨z0, e0, _, _⟩ := DataW.trod_int u0 g0
        obtain ⟨z1, e1, _, _⟩ := DataW.trod_int u1 g1
        obtain ⟨z2, e2, _, _⟩ := DataW.trod_int u2 g2
        have k0 := hcell 0 (by omega)
        have k1 := hcell 1 (by omega)
        have k2 := hcell 2 (by omega)
        rw [Go.Deep.add_add] at k0 k1 k2
        simp only [List.cons.injEq, and_true] at e0 e1 e2
        subst e0 e1 e2
        refine ⟨(z0, z1, z2), fun j u hu => ?_⟩
        unfold v3 at hu
        match j, hu with
        | 0, hu => simp at hu k0; rw [← hu]; exact k0
        | 1, hu => simp at hu k1; rw [← hu]; exact k1
        | 2, hu => simp at hu k2; rw [← hu]; exact k2
        | j + 3, hu => simp at hu
    obtain ⟨q, hq⟩ := Go.Deep.choose_lt each
    refine ⟨some a, len, m, (List.range len).map q, rfl, ⟨?_, fun hn => ⟨a, rfl, ?_, fun j u hu => ?_⟩⟩, hl, hm⟩
    · rw [flatMap_len v3 3 (fun _ => rfl)]; simp
    · have := lt_cell (hq 0 (by omega) 0 _ rfl)
      rwa [block_of_add] at this
    · have hj : j < len * 3 := by
        have := (List.getElem?_eq_some_iff.1 hu).1
        rw [flatMap_len v3 3 (fun _ => rfl)] at this; simpa using this
      rw [flatMap_get v3 3 (fun _ => rfl) _ j (by simpa using hj)] at hu
      have hd : j / 3 < len := by omega
      have := hq (j / 3) (by omega) (j % 3) u (by
        rw [← hu, getElem!_pos (v3 _) (j % 3) (show j % 3 < (v3 _).length from Nat.mod_lt _ (by decide)), getElem!_pos ((List.range len).map q) (j / 3) (by simpa using hd), ← List.getElem?_eq_getElem]
        simp)
      rwa [show j / 3 * 3 + j % 3 = j by omega] at this
theorem open_arr2 {t e : TypeId} {q : IntKind} {W : World} {base b0 : Nat} {sp : Nat → Bool} {hd : Bool} {v : Value} {d : DataW H} {ps : List MemPlace} (hu : P.underlying t = some (.array 2 e)) (he : P.underlying e = some (.int q)) (c1 : P.cellsOf e = 1) (ct : P.cellsOf t = 2)
    (hval : Value.okWide P W .any b0 t v) (h : DataW.Trod enc P W base sp hd t v d ps) : ∃ x y : Int, v = .agg #[.int q x, .int q y] ∧ (Lit.int q x).wf = true ∧ (Lit.int q y).wf = true := by
  simp only [Value.okWide, hu] at hval
  obtain ⟨cs, rfl, hs, _⟩ := hval
  rw [ct] at hs
  obtain ⟨a0, a1, rfl⟩ := Go.Joins.array2 hs
  obtain ⟨fuel, hf⟩ := h
  cases fuel with
  | zero => simp [DataW.trod] at hf
  | succ m =>
    rw [DataW.trod_step] at hf
    unfold DataW.trodStep at hf
    simp only [hu, Value.cells] at hf
    rw [if_pos (by rw [ct]; rfl)] at hf
    simp only [Option.map_eq_some_iff] at hf
    obtain ⟨ys, hy, _⟩ := hf
    rw [show List.range 2 = [0, 1] from rfl, c1] at hy
    simp only [List.mapM_cons, List.mapM_nil, bind, Option.bind_eq_some_iff, pure] at hy
    obtain ⟨y0, h0, _, ⟨y1, h1, _⟩, _⟩ := hy
    obtain ⟨z0, e0, _, w0⟩ := DataW.trod_int he h0
    obtain ⟨z1, e1, _, w1⟩ := DataW.trod_int he h1
    simp at e0 e1
    subst e0 e1
    exact ⟨z0, z1, rfl, w0, w1⟩
theorem open_arr3 {t e : TypeId} {q : IntKind} {W : World} {base b0 : Nat} {sp : Nat → Bool} {hd : Bool} {v : Value} {d : DataW H} {ps : List MemPlace} (hu : P.underlying t = some (.array 3 e)) (he : P.underlying e = some (.int q)) (c1 : P.cellsOf e = 1) (ct : P.cellsOf t = 3)
    (hval : Value.okWide P W .any b0 t v) (h : DataW.Trod enc P W base sp hd t v d ps) : ∃ x y z : Int, v = .agg #[.int q x, .int q y, .int q z] ∧ (Lit.int q x).wf = true ∧ (Lit.int q y).wf = true ∧ (Lit.int q z).wf = true := by
  simp only [Value.okWide, hu] at hval
  obtain ⟨cs, rfl, hs, _⟩ := hval
  rw [ct] at hs
  obtain ⟨a0, a1, a2, rfl⟩ := Go.Joins.array3 hs
  obtain ⟨fuel, hf⟩ := h
  cases fuel with
  | zero => simp [DataW.trod] at hf
  | succ m =>
    rw [DataW.trod_step] at hf
    unfold DataW.trodStep at hf
    simp only [hu, Value.cells] at hf
    rw [if_pos (by rw [ct]; rfl)] at hf
    simp only [Option.map_eq_some_iff] at hf
    obtain ⟨ys, hy, _⟩ := hf
    rw [show List.range 3 = [0, 1, 2] from rfl, c1] at hy
    simp only [List.mapM_cons, List.mapM_nil, bind, Option.bind_eq_some_iff, pure] at hy
    obtain ⟨y0, h0, _, ⟨y1, h1, _, ⟨y2, h2, _⟩, _⟩, _⟩ := hy
    obtain ⟨z0, e0, _, w0⟩ := DataW.trod_int he h0
    obtain ⟨z1, e1, _, w1⟩ := DataW.trod_int he h1
    obtain ⟨z2, e2, _, w2⟩ := DataW.trod_int he h2
    simp at e0 e1 e2
    subst e0 e1 e2
    exact ⟨z0, z1, z2, rfl, w0, w1, w2⟩
theorem open_ss_t {t e : TypeId} {W : World} {fuel : Nat} {cs : List Value} {y : DataW H × List MemPlace} (ht : P.underlying t = some (.slice e)) (he : P.underlying e = some .string) (hc : P.cellsOf e = 1)
    (hf : DataW.trod enc P W 0 (fun _ => true) true fuel t cs = some y) (hz : ∀ n ∈ y.1.weights P t, n ≤ reachBytes) :
    ∃ A n c ss, cs = [.slice A n c] ∧ ReadS W W.heap.size A n ss ∧ (∀ s ∈ ss, okS s) ∧ n ≤ c ∧ c ≤ maxLen := by
  rcases open_strings ht he hc hf with ⟨rfl, hx⟩ | ⟨a, len, cap, ss, rfl, _, hl, hm, hlen, hx, hcell, hsz⟩
  · exact ⟨none, 0, 0, [], rfl, Reads.none_, by simp, by omega, by unfold maxLen; omega⟩
  · subst hx
    simp only [if_true] at hlen
    have hcellT : ∀ j, j < len → W.cell? (a.add j) = some (.string ((ss.take len).getD j ByteArray.empty)) := by
      intro j hj
      rw [hcell j (by omega)]
      simp [List.getD, hj]
    refine ⟨some a, len, cap, ss.take len, rfl, ⟨by simp; omega, fun hn => ⟨a, rfl, ?_, fun j u hu => ?_⟩⟩, fun s hs => ?_, hl, hm⟩
    · have := lt_cell (hcellT 0 hn)
      rwa [block_of_add] at this
    · rw [List.getElem?_map] at hu
      obtain ⟨s, hs, rfl⟩ := Option.map_eq_some_iff.1 hu
      have hj : j < len := by have := (List.getElem?_eq_some_iff.1 hs).1; simp at this; omega
      rw [hcellT j hj, List.getD, hs]; rfl
    · have h1 : (DataW.lit (.string s.data.toList) : DataW H) ∈ strs (H := H) (ss.take len) := List.mem_map.2 ⟨s, hs, rfl⟩
      have h2 := weightsAll_mem (P := P) (e := e) h1 s.data.toList.length (by simp [DataW.weights])
      have h3 := hz s.data.toList.length (by simp only [DataW.weights, ht, List.mem_cons, List.mem_append]; exact .inr (.inl h2))
      unfold okS; unfold reachBytes at h3; simpa using h3
/-- A struct of a slice of strings and a slice of structs of three integers. -/
theorem open_case {t es er : TypeId} {f0 f1 g0 g1 g2 : Field} {W : World} {b0 : Nat} {v : Value} {d : DataW H} {ps : List MemPlace} (hs : P.underlying t = some (.struct #[f0, f1])) (hone : Go.Deep.oneCellFields P #[f0, f1] = true) (hC : P.cellsOf t = 2)
    (ht0 : P.underlying f0.type = some (.slice es)) (he0 : P.underlying es = some .string) (hc0 : P.cellsOf es = 1)
    (ht1 : P.underlying f1.type = some (.slice er)) (he1 : P.underlying er = some (.struct #[g0, g1, g2])) (hone1 : Go.Deep.oneCellFields P #[g0, g1, g2] = true) (ce1 : P.cellsOf er = 3)
    (u0 : P.underlying g0.type = some (.int .i64)) (u1 : P.underlying g1.type = some (.int .i64)) (u2 : P.underlying g2.type = some (.int .i64))
    (hval : Value.okWide P W .any b0 t v) (h : DataW.Trod enc P W 0 (fun _ => true) true t v d ps) (hz : ∀ n ∈ d.weights P t, n ≤ reachBytes) :
    ∃ A n c ss B m k, ∃ rs : List (Int × Int × Int), v = .agg #[.slice A n c, .slice B m k] ∧ ReadS W W.heap.size A n ss ∧ (∀ s ∈ ss, okS s) ∧ n ≤ c ∧ c ≤ maxLen ∧ Reads W W.heap.size 3 B m (rs.flatMap v3) ∧ m ≤ k ∧ k ≤ maxLen := by
  obtain ⟨v0, v1, y0, y1, n, rfl, rfl, rfl, h0, h1⟩ := Go.Joins.open_agg2 hs hone hC hval h
  obtain ⟨A, n, c, ss, e0, r0, k0, l0, m0⟩ := open_ss_t ht0 he0 hc0 h0 (fun n hn => hz n (by simp only [DataW.weights, hs, List.map_cons, List.map_nil, DataW.weightsEach, List.mem_append]; exact .inl hn))
  obtain ⟨B, m, k, rs, e1, r1, l1, m1⟩ := open_rows3 ht1 he1 hone1 ce1 u0 u1 u2 h1
  simp only [List.cons.injEq, and_true] at e0 e1
  subst e0 e1
  exact ⟨A, n, c, ss, B, m, k, rs, rfl, r0, k0, l0, m0, r1, l1, m1⟩
/-- A struct of three integers by value. -/
theorem open_v3 {t : TypeId} {g0 g1 g2 : Field} {W : World} {base b0 : Nat} {sp : Nat → Bool} {hd : Bool} {v : Value} {d : DataW H} {ps : List MemPlace} (hs : P.underlying t = some (.struct #[g0, g1, g2])) (hone : Go.Deep.oneCellFields P #[g0, g1, g2] = true) (hC : P.cellsOf t = 3)
    (u0 : P.underlying g0.type = some (.int .i64)) (u1 : P.underlying g1.type = some (.int .i64)) (u2 : P.underlying g2.type = some (.int .i64))
    (hval : Value.okWide P W .any b0 t v) (h : DataW.Trod enc P W base sp hd t v d ps) : ∃ x y z : Int, v = .agg #[.int .i64 x, .int .i64 y, .int .i64 z] := by
  obtain ⟨v0, v1, v2, y0, y1, y2, n, rfl, rfl, rfl, h0, h1, h2⟩ := Go.Joins.open_agg3 hs hone hC hval h
  obtain ⟨z0, e0, _, _⟩ := DataW.trod_int u0 h0
  obtain ⟨z1, e1, _, _⟩ := DataW.trod_int u1 h1
  obtain ⟨z2, e2, _, _⟩ := DataW.trod_int u2 h2
  simp only [List.cons.injEq, and_true] at e0 e1 e2
  subst e0 e1 e2
  exact ⟨z0, z1, z2, rfl⟩
theorem u8_of_wf {z : Int} (h : (Lit.int .u8 z).wf = true) : ∃ x : UInt8, z = x.toNat := by
  have := of_wf_u8 h
  refine ⟨UInt8.ofNat z.toNat, ?_⟩
  rw [UInt8.toNat_ofNat', Nat.mod_eq_of_lt (by omega)]
  omega
end
end Go.Proofs.YtgimhjkijpcgjaaDoor
