/-
  Layer 40: arguments opened: lists of texts, of articles; what the bound gives. Conditions: the bound on what is read.
-/
import Derived.Test.YtgkpoopiamicnaaGreatDoorZbaj
import Derived.Test.YtgkpoopiamicnaaGreatDoorZbOpen
import Derived.Test.YtgkpoopiamicnaaGreatDoorZbah
import Derived.Test.YtgkpoopiamicnaaGreatDoorRows
import Derived.Deep.Slices
import Derived.Deep.Fields
import Derived.Lib.SmallJoins
namespace Go.Proofs.YtgkpoopiamicnaaGreatDoor
open Go.ChangeShapes Go.WideShapes Go.ChangeAt Go.RowKit

theorem u32_of_wf {x : Int} (h : (Lit.int .u32 x).wf = true) : ∃ n : Nat, x = n ∧ is32 n := by
  simp only [Lit.wf, Bool.and_eq_true, decide_eq_true_eq] at h
  have h1 : IntKind.u32.min = 0 := rfl
  have h2 : IntKind.u32.max = 4294967295 := rfl
  rw [h1, h2] at h
  exact ⟨x.toNat, by omega, by unfold is32; omega⟩
/-! The bulk. -/
theorem bulk_one {H : Type} (d : DataW H) : 1 ≤ Rows.uptoBulk d := by
  cases d with
  | lit l => cases l <;> simp [Rows.uptoBulk]
  | nil => simp [Rows.uptoBulk]
  | ptr d => simp [Rows.uptoBulk]
  | slice elems spare => simp [Rows.uptoBulk]
  | agg parts => simp [Rows.uptoBulk]
  | iface t d => simp [Rows.uptoBulk]
  | map entries => simp [Rows.uptoBulk]
  | held h => simp [Rows.uptoBulk]
theorem bulk_part {H : Type} {d : DataW H} : ∀ {l : List (DataW H)}, d ∈ l → Rows.uptoBulk d ≤ Rows.uptoBulkAll l
  | [], h => by cases h
  | x :: r, h => by
    simp only [Rows.uptoBulkAll]
    rcases List.mem_cons.1 h with rfl | h
    · omega
    · have := bulk_part h; omega
theorem bulk_len {H : Type} : ∀ l : List (DataW H), l.length ≤ Rows.uptoBulkAll l
  | [] => by simp [Rows.uptoBulkAll]
  | x :: r => by
    have := bulk_one x
    have := bulk_len r
    simp only [Rows.uptoBulkAll, List.length_cons]; omega
section
variable {H : Type} {enc : TypeId × Value → H} {P : Program} {W : World}
def SndTy (P : Program) (t : TypeId) : Prop := ∃ g0 g1 : Field, P.underlying t = some (.struct #[g0, g1]) ∧ (g0.offset = 0 ∧ g1.offset = 1) ∧ (P.cellsOf g0.type = 1 ∧ P.cellsOf g1.type = 1 ∧ P.cellsOf t = 2) ∧ P.underlying g0.type = some (.int .u32) ∧ P.underlying g1.type = some (.int .u32)
theorem open_snd_t {t : TypeId} (T : SndTy P t) {fuel : Nat} {cs : List Value} {y : DataW H × List MemPlace} (h : DataW.trod enc P W 0 (fun _ => true) true fuel t cs = some y) : ∃ s : Snd, cs = sndC s ∧ ok32 s := by
  obtain ⟨g0, g1, hu, ⟨o0, o1⟩, ⟨c0, c1, c2⟩, u0, u1⟩ := T
  obtain ⟨xs, n, _, _, hl, hlen, hf⟩ := DataW.trod_struct hu h
  rw [c2] at hl
  match xs, hlen, cs, hl with
  | [y0, y1], _, [v0, v1], _ =>
    have k0 := hf 0 g0 rfl
    have k1 := hf 1 g1 rfl
    simp [o0, o1, c0, c1] at k0 k1
    obtain ⟨z0, e0, _, w0⟩ := DataW.trod_int u0 k0
    obtain ⟨z1, e1, _, w1⟩ := DataW.trod_int u1 k1
    simp only [List.cons.injEq, and_true] at e0 e1
    subst e0 e1
    obtain ⟨m0, rfl, l0⟩ := u32_of_wf w0
    obtain ⟨m1, rfl, l1⟩ := u32_of_wf w1
    exact ⟨(m0, m1), rfl, l0, l1⟩
/-- The rows of a slice, read. -/
theorem reads_rows {w : World} {a : Addr} {k len : Nat} (hk : 0 < k) (z : Nat → List Value) (hz : ∀ i, (z i).length = k) (h : ∀ i, i < len → ∀ j u, (z i)[j]? = some u → w.cell? (a.add (i * k + j)) = some u) : Reads w w.heap.size k (some a) len ((List.range len).flatMap z) := by
  refine ⟨by rw [flatMap_len z k hz]; simp, fun hn => ⟨a, rfl, ?_, fun j u hu => ?_⟩⟩
  · have h0 : 0 < (z 0).length := by rw [hz]; exact hk
    have := lt_cell (h 0 hn 0 _ (List.getElem?_eq_getElem h0))
    rwa [block_of_add] at this
  · have hj : j < len * k := by
      have := (List.getElem?_eq_some_iff.1 hu).1
      rw [flatMap_len z k hz] at this; simpa using this
    rw [flatMap_get z k hz _ j (by simpa using hj)] at hu
    have hd : j / k < len := Nat.div_lt_of_lt_mul (by rw [Nat.mul_comm]; exact hj)
    have he : (List.range len)[j / k]! = j / k := by rw [getElem!_pos (List.range len) (j / k) (by simpa using hd)]; simp
    rw [he] at hu
    have hm : j % k < (z (j / k)).length := by rw [hz]; exact Nat.mod_lt _ hk
    rw [getElem!_pos (z (j / k)) (j % k) hm, ← List.getElem?_eq_getElem] at hu
    have := h (j / k) hd (j % k) u hu
    rwa [show j / k * k + j % k = j by rw [Nat.mul_comm]; exact Nat.div_add_mod j k] at this
theorem rowsF_of {α : Type} {Q : World → (Nat → Prop) → α → List Value → Prop} {w : World} {S : Nat → Prop} (q : Nat → α) (z : Nat → List Value) : ∀ L : List Nat, (∀ i ∈ L, Q w S (q i) (z i)) → RowsF Q w S (L.map q) (L.flatMap z)
  | [], _ => rfl
  | i :: L, h => ⟨z i, L.flatMap z, rfl, h i List.mem_cons_self, rowsF_of q z L fun j hj => h j (List.mem_cons_of_mem _ hj)⟩
/-- Below what is there. -/
abbrev Lows (W : World) : Nat → Prop := fun b => b < W.heap.size
/-- A slice of elements that can be opened. -/
theorem open_slF {α : Type} [Inhabited α] {t e : TypeId} {k N : Nat} (hk : 0 < k) (Q : World → (Nat → Prop) → α → List Value → Prop) (ok : α → Prop) (ht : P.underlying t = some (.slice e)) (ce : P.cellsOf e = k)
    (ho : ∀ (n : Nat) (cs : List Value) (y : DataW H × List MemPlace), Rows.uptoBulk y.1 ≤ N → DataW.trod enc P W 0 (fun _ => true) true n e cs = some y → ∃ x : α, Q W (Lows W) x cs ∧ ok x) {fuel : Nat} {cs : List Value} {x : DataW H × List MemPlace}
    (h : DataW.trod enc P W 0 (fun _ => true) true fuel t cs = some x) (hN : Rows.uptoBulk x.1 ≤ N) :
    ∃ (v : Value) (l : List α), cs = [v] ∧ SlF Q k W (Lows W) l v ∧ (∀ y ∈ l, ok y) ∧ l.length ≤ N := by
  rcases Go.Deep.open_slice ht h with ⟨rfl, _⟩ | ⟨a, len, cap, m, n, D, Pl, rfl, hb, hl, hm, hmm, rfl, hx⟩
  · exact ⟨_, [], rfl, slF_nil _ _ _ _, (fun s hs => by cases hs), by simp⟩
  · simp only [if_true] at hmm
    subst hmm
    simp only [Rows.uptoBulk] at hN
    have hlen := bulk_len ((List.range len).map D)
    rw [List.length_map, List.length_range] at hlen
    have each : ∀ i, i < len → ∃ q : α × List Value, Q W (Lows W) q.1 q.2 ∧ ok q.1 ∧ q.2.length = k ∧ ∀ j u, q.2[j]? = some u → W.cell? (a.add (i * k + j)) = some u := by
      intro i hi
      obtain ⟨cs', h1, h2⟩ := hx i (by omega)
      rw [ce] at h1
      obtain ⟨_, hlen, hcell⟩ := World.cells?_some h1
      have hbk : Rows.uptoBulk (D i) ≤ Rows.uptoBulkAll ((List.range len).map D) := bulk_part (List.mem_map.2 ⟨i, List.mem_range.2 hi, rfl⟩)
      obtain ⟨q, hq, hq2⟩ := ho _ _ _ (by show Rows.uptoBulk (D i) ≤ N; omega) h2
      refine ⟨(q, _), hq, hq2, by simpa using hlen, fun j u hu => ?_⟩
      have hj : j < k := by have := (List.getElem?_eq_some_iff.1 hu).1; simp at this; omega
      have := hcell j hj
      rw [Go.Deep.add_add] at this
      rw [this]; exact hu
    obtain ⟨q, hq⟩ := Go.Deep.choose_lt each
    have hz : ∀ i, ((fun i => if i < len then (q i).2 else List.replicate k (.bool false)) i).length = k := fun i => by
      by_cases h : i < len
      · simp only [if_pos h]; exact (hq i h).2.2.1
      · simp only [if_neg h]; simp
    refine ⟨_, (List.range len).map fun i => (q i).1, rfl, ⟨some a, m, (List.range len).flatMap fun i => if i < len then (q i).2 else List.replicate k (.bool false), by simp, ⟨by simpa using hl, hm⟩, ?_, ?_⟩, fun s hs => ?_, by simp; omega⟩
    · rw [List.length_map, List.length_range]
      exact rowF_of_reads (reads_rows hk _ hz fun i hi j u hu => by
        simp only [if_pos hi] at hu
        exact (hq i hi).2.2.2 j u hu)
    · exact rowsF_of (fun i => (q i).1) _ (List.range len) fun i hi => by
        have hi := List.mem_range.1 hi
        simp only [if_pos hi]
        exact (hq i hi).1
    · obtain ⟨i, hi, rfl⟩ := List.mem_map.1 hs
      exact (hq i (List.mem_range.1 hi)).2.1
/-- A text. -/
def StrF (_ : World) (_ : Nat → Prop) (s : ByteArray) (cs : List Value) : Prop := cs = [.string s]
def SndF (_ : World) (_ : Nat → Prop) (s : Snd) (cs : List Value) : Prop := cs = sndC s
theorem rowsF_str {w : World} {S : Nat → Prop} : ∀ {l : List ByteArray} {xs : List Value}, RowsF StrF w S l xs → xs = l.map Value.string
  | [], _, h => h
  | s :: l, _, ⟨c1, c2, e, h1, h2⟩ => by rw [e, show c1 = [.string s] from h1, rowsF_str h2]; rfl
theorem rowsF_snd {w : World} {S : Nat → Prop} : ∀ {l : List Snd} {xs : List Value}, RowsF SndF w S l xs → xs = l.flatMap sndC
  | [], _, h => h
  | s :: l, _, ⟨c1, c2, e, h1, h2⟩ => by rw [e, show c1 = sndC s from h1, rowsF_snd h2]; rfl
theorem slF_tx {w : World} {S : Nat → Prop} {l : List ByteArray} {v : Value} (h : SlF StrF 1 w S l v) : TxF w S l v := by
  obtain ⟨A, c, xs, e, h1, h2, h3⟩ := h
  rw [rowsF_str h3] at h2
  exact ⟨A, c, e, h1, h2⟩
theorem slF_wd {w : World} {S : Nat → Prop} {l : List Snd} {v : Value} (h : SlF SndF 2 w S l v) : WdF w S l v := by
  obtain ⟨A, c, xs, e, h1, h2, h3⟩ := h
  rw [rowsF_snd h3] at h2
  exact ⟨A, c, e, h1, h2⟩
instance : Inhabited ByteArray := ⟨⟨#[]⟩⟩
instance : Inhabited Art := ⟨art0⟩
theorem open_str {t : TypeId} {N : Nat} (ht : P.underlying t = some .string) (n : Nat) (cs : List Value) (y : DataW H × List MemPlace) (hN : Rows.uptoBulk y.1 ≤ N) (h : DataW.trod enc P W 0 (fun _ => true) true n t cs = some y) : ∃ s : ByteArray, StrF W (Lows W) s cs ∧ s.size ≤ N := by
  obtain ⟨s, e, rfl, _⟩ := DataW.trod_string ht h
  simp only [Rows.uptoBulk] at hN
  exact ⟨s, e, by have : s.data.toList.length = s.size := rfl; omega⟩
theorem open_txs {t e : TypeId} {N : Nat} (ht : P.underlying t = some (.slice e)) (he : P.underlying e = some .string) (ce : P.cellsOf e = 1) {fuel : Nat} {cs : List Value} {x : DataW H × List MemPlace} (h : DataW.trod enc P W 0 (fun _ => true) true fuel t cs = some x) (hN : Rows.uptoBulk x.1 ≤ N) :
    ∃ (v : Value) (l : List ByteArray), cs = [v] ∧ TxF W (Lows W) l v ∧ (∀ s ∈ l, s.size ≤ N) ∧ l.length ≤ N := by
  obtain ⟨v, l, e1, h1, h2, h3⟩ := open_slF (by decide) StrF (fun s => s.size ≤ N) ht ce (fun n cs y hn hh => open_str he n cs y hn hh) h hN
  exact ⟨v, l, e1, slF_tx h1, h2, h3⟩
/-- The type of articles. -/
def ArtTy (P : Program) (t : TypeId) : Prop := ∃ (g0 g1 g2 g3 : Field) (e1 e2 e3 : TypeId), P.underlying t = some (.struct #[g0, g1, g2, g3]) ∧ (g0.offset = 0 ∧ g1.offset = 1 ∧ g2.offset = 2 ∧ g3.offset = 3) ∧ (P.cellsOf g0.type = 1 ∧ P.cellsOf g1.type = 1 ∧ P.cellsOf g2.type = 1 ∧ P.cellsOf g3.type = 1 ∧ P.cellsOf t = 4) ∧ P.underlying g0.type = some .string ∧
  (P.underlying g1.type = some (.slice e1) ∧ P.cellsOf e1 = 2 ∧ SndTy P e1) ∧ (P.underlying g2.type = some (.slice e2) ∧ P.cellsOf e2 = 1 ∧ P.underlying e2 = some .string) ∧ (P.underlying g3.type = some (.slice e3) ∧ P.cellsOf e3 = 1 ∧ P.underlying e3 = some .string)
theorem open_art {t : TypeId} {N : Nat} (T : ArtTy P t) (hN2 : N ≤ 140737488351232) (n : Nat) (cs : List Value) (y : DataW H × List MemPlace) (hN : Rows.uptoBulk y.1 ≤ N) (h : DataW.trod enc P W 0 (fun _ => true) true n t cs = some y) : ∃ x : Art, ArtF W (Lows W) x cs ∧ ArtOk x := by
  obtain ⟨g0, g1, g2, g3, e1, e2, e3, hu, ⟨o0, o1, o2, o3⟩, ⟨c0, c1, c2, c3, c4⟩, u0, ⟨u1, k1, t1⟩, ⟨u2, k2, t2⟩, ⟨u3, k3, t3⟩⟩ := T
  obtain ⟨xs, n, _, rfl, hl, hlen, hf⟩ := DataW.trod_struct hu h
  rw [c4] at hl
  match xs, hlen, cs, hl with
  | [y0, y1, y2, y3], _, [v0, v1, v2, v3], _ =>
    have f0 := hf 0 g0 rfl
    have f1 := hf 1 g1 rfl
    have f2 := hf 2 g2 rfl
    have f3 := hf 3 g3 rfl
    simp [o0, o1, o2, o3, c0, c1, c2, c3] at f0 f1 f2 f3
    simp only [List.map_cons, List.map_nil, Rows.uptoBulk, Rows.uptoBulkAll] at hN
    obtain ⟨s, q0, hs⟩ := open_str (N := N) u0 _ _ _ (by omega) f0
    obtain ⟨w1, l1, q1, hw1, hok1, -⟩ := open_slF (N := N) (by decide) SndF ok32 u1 k1 (fun n cs y _ hh => open_snd_t t1 hh) f1 (by omega)
    obtain ⟨w2, l2, q2, hw2, hok2, -⟩ := open_txs (N := N) u2 t2 k2 f2 (by omega)
    obtain ⟨w3, l3, q3, hw3, hok3, -⟩ := open_txs (N := N) u3 t3 k3 f3 (by omega)
    simp only [StrF, List.cons.injEq, and_true] at q0 q1 q2 q3
    subst q0 q1 q2 q3
    exact ⟨⟨s, l1, l2, l3⟩, ⟨_, _, _, rfl, slF_wd hw1, hw2, hw3⟩, ⟨by show s.size ≤ _; omega, hok1, fun s hs => Nat.le_trans (hok2 s hs) hN2, fun s hs => Nat.le_trans (hok3 s hs) hN2⟩⟩
theorem open_arts {t e : TypeId} {N : Nat} (ht : P.underlying t = some (.slice e)) (he : ArtTy P e) (ce : P.cellsOf e = 4) (hN2 : N ≤ 140737488351232) {fuel : Nat} {cs : List Value} {x : DataW H × List MemPlace} (h : DataW.trod enc P W 0 (fun _ => true) true fuel t cs = some x) (hN : Rows.uptoBulk x.1 ≤ N) :
    ∃ (v : Value) (l : List Art), cs = [v] ∧ ArtsF W (Lows W) l v ∧ (∀ s ∈ l, ArtOk s) ∧ l.length ≤ N :=
  open_slF (by decide) ArtF ArtOk ht ce (fun n cs y hn hh => open_art he hN2 n cs y hn hh) h hN
end
end Go.Proofs.YtgkpoopiamicnaaGreatDoor
