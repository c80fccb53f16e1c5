/-
  Rows of elements of k cells: between the words 'Reads', 'ownsRow' and the sort's words on rows. Conditions: none. Of no program.
-/
import Derived.Test.YtdelkgfodeilkaaDoorFlat
import Derived.Shelf.SlSortCmp.WholeK
import Derived.Shelf.SlSortCmp.NoneTotal
namespace Go.Proofs.YtdelkgfodeilkaaDoor
open Go.RowKit Go.Sort

section
variable {α : Type} [Inhabited α]
theorem flatK_get (enc : α → List Value) (k : Nat) (hk : ∀ x, (enc x).length = k) (d : Array α) (t : Nat) (h : t < d.size * k) : (d.toList.flatMap enc)[t]? = some (flatK enc k d)[t]! := by
  rw [flatMap_get enc k hk d.toList t (by simpa using h), get_flatK enc k d t h]
  have hlt : t / k < d.size := by
    rcases Nat.eq_zero_or_pos k with e | e
    · subst e; simp at h
    · exact (Nat.div_lt_iff_lt_mul e).2 h
  rw [getElem!_pos d.toList _ (by simpa using hlt), getElem!_pos d _ hlt]
  simp
/-- A row that the call owns, in the sort's words. -/
theorem holdsK_own {enc : α → List Value} {k : Nat} (hk : ∀ x, (enc x).length = k) {w : World} {base : Nat} {e : TypeId} {g n cap : Nat} {ds : List α} (h : w.ownsRow base e k (.slice (some ⟨g, 0, none⟩) n cap) n (ds.flatMap enc)) (hn : ds.length = n) :
    HoldsK enc k w g 0 ds.toArray := by
  have hh : ∃ cur, w.heap[g]? = some (.cells cur e (0, 0)) := by
    rcases h.2 with ⟨h', _⟩ | ⟨g', cap', cur, h', _, hg, _⟩
    · simp at h'
    · simp only [Value.slice.injEq, Option.some.injEq, Addr.mk.injEq, and_true, true_and] at h'
      obtain ⟨rfl, rfl⟩ := h'
      exact ⟨cur, hg⟩
  intro t ht
  rw [size_flatK] at ht
  have ht' : t < ds.length * k := by simpa using ht
  rw [Nat.zero_add]
  refine ⟨?_, ?_⟩
  · rw [h.cellAt t (by rw [← hn]; exact ht')]
    exact flatK_get enc k hk ds.toArray t ht
  · obtain ⟨cur, hg⟩ := hh
    simp [World.frozen?, hg]
/-- .. and back: what such a row reads as. -/
theorem reads_holdsK {enc : α → List Value} {k : Nat} (hk : ∀ x, (enc x).length = k) {w : World} {g n B : Nat} {ds : List α} (h : HoldsK enc k w g 0 ds.toArray) (hn : ds.length = n) (hB : g < B) : Reads w B k (some ⟨g, 0, none⟩) n (ds.flatMap enc) := by
  refine ⟨by rw [flatMap_len enc k hk, hn], fun _ => ⟨_, rfl, hB, fun j u hu => ?_⟩⟩
  have hj : j < ds.length * k := by
    have := (List.getElem?_eq_some_iff.1 hu).1
    rwa [flatMap_len enc k hk] at this
  have h1 := (h j (by rw [size_flatK]; simpa using hj)).1
  rw [Nat.zero_add] at h1
  have h2 := flatK_get enc k hk ds.toArray j (by simpa using hj)
  rw [show (ds.toArray).toList = ds from rfl, hu] at h2
  rw [show (⟨g, 0, none⟩ : Addr).add j = ⟨g, j, none⟩ by unfold Addr.add; split <;> simp_all]
  rw [h1, ← Option.some.inj h2]
  rfl
theorem permIn_list {d d' : Array α} (h : PermIn 0 d.size d d') : d'.toList.Perm d.toList := by
  obtain ⟨h1, _, h3⟩ := h
  have e1 : d.extract 0 d.size = d := by simp
  have e2 : d'.extract 0 d.size = d' := by rw [← h1]; simp
  rwa [e1, e2] at h3
theorem sortedIn_list {lt : α → α → Bool} {d d' : Array α} (hs : d'.size = d.size) (h : SortedIn lt 0 d.size d') : d'.toList.Pairwise fun x y => lt y x = false := by
  rw [List.pairwise_iff_getElem]
  intro i j hi hj hij
  have := h i j (Nat.zero_le _) hij (by simpa [hs] using hj)
  simp only [Array.length_toList] at hi hj
  rw [getElem!_pos d' i hi, getElem!_pos d' j hj] at this
  simpa using this
theorem block_sortWorldK (enc : α → List Value) (k : Nat) (w : World) (blk off m : Nat) (dk : Array α) (os : Array Obj) {b : Nat} (hb : b < w.heap.size) (hne : b ≠ blk) : (sortWorldK enc k w blk off m dk os).heap[b]? = w.heap[b]? := by
  unfold sortWorldK
  rw [Go.Sort.heap_grow_old _ _ (by show b < (putRowK enc k _ blk off dk).heap.size; rw [size_putRowK]; exact hb)]
  simp [putRowK, putRow, mapBlock, Sort.ahead, Array.getElem?_modify, Ne.symm hne]
theorem below_sortWorldK (enc : α → List Value) (k : Nat) (w : World) (blk off m : Nat) (dk : Array α) (os : Array Obj) (hblk : blk < w.heap.size) : Go.RowKit.Below blk w (sortWorldK enc k w blk off m dk os) where
  os := rfl
  tape := rfl
  output := rfl
  size := by have := size_sortWorldK_c enc k w blk off m dk os; omega
  block b hb := block_sortWorldK enc k w blk off m dk os (by omega) (by omega)
end
end Go.Proofs.YtdelkgfodeilkaaDoor
