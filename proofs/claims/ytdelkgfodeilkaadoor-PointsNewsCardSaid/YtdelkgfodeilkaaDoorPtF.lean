/-
  layer 36: the closures of from: which point is nearer, which point is the one. Conditions: points of the row.
-/
import Derived.Test.YtdelkgfodeilkaaDoorPtM
import Derived.Test.YtdelkgfodeilkaaDoorShelf
import Derived.Test.YtdelkgfodeilkaaDoorShelf3
import Derived.Deep.QuietTactic
import Derived.BigQuiet
namespace Go.Proofs.YtdelkgfodeilkaaDoor
open Go.RowKit Go.Lib

theorem from2_any (b : Nat) (at_ x : Int) (w : World) (hb : Blk w b 3 #[.int .i64 at_]) : Calls Tryd.prog 76 #[.int .i64 x, .pointer (some ⟨b, 0, none⟩)] w fun e w' => e = .returned (.bool (x == at_)) ∧ w = w' := by
  have hc := hb.cell 0
  simp only [List.getElem?_toArray, List.getElem?_cons_zero] at hc
  clear hb
  go_enter Tryd.func76, Tryd.ntmps76
  go_wp2
  go_ret
  exact ⟨rfl, rfl⟩
theorem from1_any (b q n c x y : Nat) (dx dy : Int) (w : World) (hb : Blk w b 63 #[.slice (some ⟨q, 0, none⟩) n c]) (hx : x < n) (hy : y < n) (hcx : w.cell? ⟨q, x, none⟩ = some (.int .i64 dx)) (hcy : w.cell? ⟨q, y, none⟩ = some (.int .i64 dy)) :
    Calls Tryd.prog 72 #[.int .i64 x, .int .i64 y, .pointer (some ⟨b, 0, none⟩)] w fun e w' => e = .returned (.int .i64 (Lib.compareInt dx dy)) ∧ ∃ k, w' = w.drewN k := by
  have hc := hb.cell 0
  simp only [List.getElem?_toArray, List.getElem?_cons_zero] at hc
  have hxI : (x : Int) < (n : Int) := by omega
  have hyI : (y : Int) < (n : Int) := by omega
  have hx0 : (0 : Int) ≤ (x : Int) := by omega
  have hy0 : (0 : Int) ≤ (y : Int) := by omega
  have hcmp := fun W => Tryd.cmp_Compare_int_f73 dx dy W
  have HCMP := Lib.hid hcmp
  clear hb hcmp
  go_enter Tryd.func72, Tryd.ntmps72
  go_wp2_with fail
  go_quiet ((go_at_call 73; refine Calls.quiet_of_same (HCMP.out _)))
  go_wp2
  go_ret
  exact ⟨rfl, _, rfl⟩
/-! The nearest open point. -/
def encP {N : Nat} (x : Fin N) : Value := .int .i64 (x.val : Int)
theorem sortWorld_block {α : Type} [Inhabited α] (enc : α → Value) (w : World) (blk off m : Nat) (dk : Array α) (os : Array Obj) {b : Nat} (hb : b < w.heap.size) (hne : b ≠ blk) : (sortWorld enc w blk off m dk os).heap[b]? = w.heap[b]? := by
  unfold sortWorld
  rw [Go.Sort.heap_grow_old _ _ (by simpa using hb)]
  have : blk ≠ b := fun e => hne e.symm
  simp [Go.Sort.putRow, Go.Sort.mapBlock, Go.Sort.ahead, Array.getElem?_modify, this]
theorem nearer_reads {N b q blk off c size : Nat} [Inhabited (Fin N)] (r : Nat → Int) (w : World) (hb : Blk w b 63 #[.slice (some ⟨q, 0, none⟩) N c]) (cs : Array Value) (hq : Blk w q 2 cs) (hr : ∀ x, x < N → cs[x]? = some (.int .i64 (r x))) (hbb : b ≠ blk) (hqb : q ≠ blk) :
    CmpReads Tryd.prog 72 #[.pointer (some ⟨b, 0, none⟩)] (encP (N := N)) (fun x y => Lib.compareInt (r x.val) (r y.val)) blk off size w := by
  intro m os dk hs x y
  have hB := (sortWorld_block encP w blk off m dk os hb.lt hbb).trans hb
  have hQ := (sortWorld_block encP w blk off m dk os hq.lt hqb).trans hq
  exact from1_any b q N c x.val y.val (r x.val) (r y.val) _ hB x.isLt y.isLt ((Blk.cell hQ x.val).trans (hr _ x.isLt)) ((Blk.cell hQ y.val).trans (hr _ y.isLt))
theorem minOpen_any {N b q o c c' : Nat} [Inhabited (Fin N)] (r : Nat → Int) (w : World) (hb : Blk w b 63 #[.slice (some ⟨q, 0, none⟩) N c]) (cs : Array Value) (hq : Blk w q 2 cs) (hr : ∀ x, x < N → cs[x]? = some (.int .i64 (r x))) (hbb : b ≠ o) (hqb : q ≠ o)
    (d : Array (Fin N)) (hH : Go.Sort.Holds encP w o 0 d) (ho : o < w.heap.size) (hd : d.size ≤ 100000) (h0 : 0 < d.size) :
    Calls Tryd.prog 74 #[.slice (some ⟨o, 0, none⟩) d.size c', .func (.func 72) #[] #[.pointer (some ⟨b, 0, none⟩)]] w fun e w' =>
      e = .returned (encP (Lib.pickBy (fun x m => decide (Lib.compareInt (r x.val) (r m.val) < 0)) d (d.size - 1))) ∧ SW encP w o 0 d w' :=
  Any.slices_MinFunc Tryd.minFn encP (fun _ => rfl) (fun x y => Lib.compareInt (r x.val) (r y.val)) 72 #[.pointer (some ⟨b, 0, none⟩)] o 0 c' d w
    (enters_of Tryd.func72 (by kernel_rfl) rfl) (CmpReads.lays (nearer_reads r w hb cs hq hr hbb hqb)) hH ho (by omega) h0
theorem del_gives {N b at_ : Nat} (x : Fin N) (W : World) (hb : Blk W b 3 #[.int .i64 at_]) : FnGives Tryd.prog 76 #[.pointer (some ⟨b, 0, none⟩)] #[encP x] (.bool (decide (x.val = at_))) W := by
  have h := from2_any b at_ x.val W hb
  have e : (((x.val : Int)) == (at_ : Int)) = decide (x.val = at_) := by
    by_cases hx : x.val = at_
    · rw [hx]; simp
    · rw [decide_eq_false hx, beq_eq_false_iff_ne]; omega
  rw [e] at h
  refine h.mono ?_
  rintro e w' ⟨rfl, rfl⟩
  exact ⟨rfl, 0, rfl⟩
theorem delOpen_any {N b o c' at_ : Nat} [Inhabited (Fin N)] (hN : 0 < N) (w : World) (hb : Blk w b 3 #[.int .i64 at_]) (hbo : b ≠ o) (d : Array (Fin N)) (hH : Go.Sort.Holds encP w o 0 d) (hd : d.size ≤ 100000) (hc : d.size ≤ c') :
    Calls Tryd.prog 75 #[.slice (some ⟨o, 0, none⟩) d.size c', .func (.func 76) #[] #[.pointer (some ⟨b, 0, none⟩)]] w fun e w' =>
      e = .returned (.slice (some ⟨o, 0, none⟩) (d.toList.filter fun x => !decide (x.val = at_)).length c') ∧
      ∃ k, w' = Go.Sort.putRow encP (Go.Sort.ahead w k) o 0 ((d.toList.filter fun x => !decide (x.val = at_)) ++ List.replicate (d.size - (d.toList.filter fun x => !decide (x.val = at_)).length) (⟨0, hN⟩ : Fin N)).toArray :=
  Tryd.slices_DeleteFunc encP (fun _ => rfl) (fun x => decide (x.val = at_)) 76 #[.pointer (some ⟨b, 0, none⟩)] (enters_of Tryd.func76 (by kernel_rfl) rfl) ⟨0, hN⟩ Tryd.zeroValue3 o 0 c' d w
    (fun W x hW => del_gives x W (hb.below hW hb.lt)) (fun n os dk x _ => del_gives x _ ((sortWorld_block encP w o 0 n dk os hb.lt hbo).trans hb)) hH (by omega) hc
end Go.Proofs.YtdelkgfodeilkaaDoor
