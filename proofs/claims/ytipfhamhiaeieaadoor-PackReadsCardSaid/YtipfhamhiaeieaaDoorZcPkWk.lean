/-
  layer 43: works. Conditions: none.
-/
import Derived.Test.YtipfhamhiaeieaaDoorZcal
import Derived.Test.YtipfhamhiaeieaaDoorZcai
import Derived.Test.YtipfhamhiaeieaaDoorZcam
import Derived.Test.YtipfhamhiaeieaaDoorZcao
namespace Go.Proofs.YtipfhamhiaeieaaDoor
open Go.RowKit Go.Lib

theorem setRow_new (w : World) (c c' : Array Value) (t : TypeId) : (w.alloc (.cells c t)).setRow w.heap.size c' = w.alloc (.cells c' t) := by
  simp only [World.setRow, World.alloc]
  congr 1
  apply Array.ext_getElem?
  intro i
  rw [Array.getElem?_modify]
  by_cases h : w.heap.size = i
  · subst h
    simp
  · have h' : ¬ i = w.heap.size := fun e => h e.symm
    simp [h, h', Array.getElem?_push]
/-- A store of a whole row into the block that was made last. -/
theorem store_new {P : Program} {ops : Array Oper} {rest : List Oper} {o : Oper} {a : Act} {w : World} {c cs : Array Value} {Q : Exit → Act → World → Prop} (hgd : o.guard = none) (ty : TypeId) (x y : Operand) (ho : o.op = .store ty x y)
    (hx : a.eval x = .pointer (some ⟨w.heap.size, 0, none⟩)) (hy : a.eval y = .agg cs) (hi : (P.info? ty).map (·.size) = some cs.size) (hc : c.size = cs.size) (h1 : cs.all (·.oneCell') = true)
    (h : wpList P ops Q rest (a.put o.dst undef) (w.alloc (.cells cs ty))) : wpList P ops Q (o :: rest) a (w.alloc (.cells c ty)) := by
  refine wpList_plain hgd fun _ hK => ?_
  unfold Oper.wp execOp
  simp only [ho, hx, hy, Instr.storeAt, Instr.sureAddr, Sem.run_bind, Sem.run_pure, Result.andThen_ok, run_storeVar_row _ _ ty ty c cs (heap_alloc_new w _) hi hc h1, setRow_new]
  exact hK _ _ h
theorem reads_lit (w : World) (t : TypeId) (k n : Nat) (xs : List Value) (hl : xs.length = n * k) : Reads (w.alloc (.cells xs.toArray t)) (w.heap.size + 1) k (some ⟨w.heap.size, 0, none⟩) n xs :=
  ⟨hl, fun _ => ⟨_, rfl, Nat.lt_succ_self _, fun j u hu => by rw [add_at, (Blk.new w t xs.toArray).cell j]; simpa using hu⟩⟩
/-- The law that works packs. -/
def lawT : Lw := ⟨⟨#[86]⟩, .mk 1 (4, 0) false 0 0 [], .mk 1 (4, 0) false 0 0 [], [(2, 0)], [⟨0, 0, (1, 0), 0, 0⟩], 1⟩
/-- What works made ahead of its calls. -/
structure WF (w W : World) (cs : List Value) : Prop where
  below : Below w.heap.size w W
  lt : w.heap.size + 6 ≤ W.heap.size
  b1 : Blk W w.heap.size 24 #[.int .u32 2, .int .u32 5]
  b2 : Blk W (w.heap.size + 1) 24 #[.int .u32 5, .int .u32 2]
  b5 : Blk W (w.heap.size + 1 + 1 + 1 + 1 + 1) 31 cs.toArray
  law : LawC W (w.heap.size + 6) lawT cs
theorem WF.next {w W W' : World} {cs : List Value} (h : WF w W cs) (hb : Below W.heap.size W W') : WF w W' cs :=
  ⟨h.below.trans (hb.mono h.below.size), by have := h.lt; have := hb.size; omega, h.b1.below hb h.b1.lt, h.b2.below hb h.b2.lt, h.b5.below hb h.b5.lt, h.law.below (hb.mono h.lt)⟩
theorem WF.alloc {w W : World} {cs : List Value} (h : WF w W cs) (o : Obj) : WF w (W.alloc o) cs := h.next ((Below.refl _ W).alloc (Nat.le_refl _) o)
theorem works_start (w : World) : ∃ W cs, ((((((w.alloc (.cells #[.int .u32 2, .int .u32 5] 24)).alloc (.cells #[.int .u32 5, .int .u32 2] 24)).alloc (.cells #[.int .i64 1, .int .u32 4, .int .u32 0, .bool false, .int .i64 0, .int .i64 0, .slice none 0 0] 27)).alloc (.cells #[.int .u32 2, .int .u32 0] 24)).alloc
    (.cells #[.int .i64 0, .int .u32 0, .int .u32 1, .int .u32 0, .int .u32 0, .int .i64 0] 60)).alloc (.cells #[.string { data := #[86] }, .int .i64 1, .int .u32 4, .int .u32 0, .bool false, .int .i64 0, .int .i64 0, .slice none 0 0, .int .i64 1, .int .u32 4, .int .u32 0, .bool false, .int .i64 0, .int .i64 0, .slice none 0 0,
      .slice (some { block := w.heap.size + 1 + 1 + 1, off := 0 }) 1 1, .slice (some { block := w.heap.size + 1 + 1 + 1 + 1, off := 0 }) 1 1, .int .i64 1] 31)) = W ∧ WF w W cs ∧ W.heap.size = w.heap.size + 1 + 1 + 1 + 1 + 1 + 1 := by
  refine ⟨_, [.string { data := #[86] }, .int .i64 1, .int .u32 4, .int .u32 0, .bool false, .int .i64 0, .int .i64 0, .slice none 0 0, .int .i64 1, .int .u32 4, .int .u32 0, .bool false, .int .i64 0, .int .i64 0, .slice none 0 0,
      .slice (some { block := w.heap.size + 1 + 1 + 1, off := 0 }) 1 1, .slice (some { block := w.heap.size + 1 + 1 + 1 + 1, off := 0 }) 1 1, .int .i64 1], rfl, ?_, by simp only [World.size_alloc]⟩
  have e1 := Below.refl w.heap.size w
  have f1 := Blk.new w 24 #[.int .u32 2, .int .u32 5]
  have e2 := e1.alloc (Nat.le_refl _) (.cells #[.int .u32 2, .int .u32 5] 24)
  have z2 : (w.alloc (.cells #[.int .u32 2, .int .u32 5] 24)).heap.size = w.heap.size + 1 := World.size_alloc _ _
  generalize w.alloc (.cells #[.int .u32 2, .int .u32 5] 24) = W1 at *
  have f2 := Blk.new W1 24 #[.int .u32 5, .int .u32 2]
  replace f1 := f1.alloc (.cells #[.int .u32 5, .int .u32 2] 24)
  have e3 := e2.alloc (by omega) (.cells #[.int .u32 5, .int .u32 2] 24)
  have z3 : (W1.alloc (.cells #[.int .u32 5, .int .u32 2] 24)).heap.size = w.heap.size + 1 + 1 := by rw [World.size_alloc, z2]
  rw [z2] at f2
  generalize W1.alloc (.cells #[.int .u32 5, .int .u32 2] 24) = W2 at *
  replace f1 := f1.alloc (.cells #[.int .i64 1, .int .u32 4, .int .u32 0, .bool false, .int .i64 0, .int .i64 0, .slice none 0 0] 27)
  replace f2 := f2.alloc (.cells #[.int .i64 1, .int .u32 4, .int .u32 0, .bool false, .int .i64 0, .int .i64 0, .slice none 0 0] 27)
  have e4 := e3.alloc (by omega) (.cells #[.int .i64 1, .int .u32 4, .int .u32 0, .bool false, .int .i64 0, .int .i64 0, .slice none 0 0] 27)
  have z4 : (W2.alloc (.cells #[.int .i64 1, .int .u32 4, .int .u32 0, .bool false, .int .i64 0, .int .i64 0, .slice none 0 0] 27)).heap.size = w.heap.size + 1 + 1 + 1 := by rw [World.size_alloc, z3]
  generalize W2.alloc (.cells #[.int .i64 1, .int .u32 4, .int .u32 0, .bool false, .int .i64 0, .int .i64 0, .slice none 0 0] 27) = W3 at *
  have r4 := reads_lit W3 24 2 1 [.int .u32 2, .int .u32 0] rfl
  replace f1 := f1.alloc (.cells #[.int .u32 2, .int .u32 0] 24)
  replace f2 := f2.alloc (.cells #[.int .u32 2, .int .u32 0] 24)
  have e5 := e4.alloc (by omega) (.cells #[.int .u32 2, .int .u32 0] 24)
  have z5 : (W3.alloc (.cells #[.int .u32 2, .int .u32 0] 24)).heap.size = w.heap.size + 1 + 1 + 1 + 1 := by rw [World.size_alloc, z4]
  rw [z4] at r4
  generalize W3.alloc (.cells #[.int .u32 2, .int .u32 0] 24) = W4 at *
  have r5 := reads_lit W4 60 6 1 [.int .i64 0, .int .u32 0, .int .u32 1, .int .u32 0, .int .u32 0, .int .i64 0] rfl
  replace r4 := r4.alloc (by omega) (.cells #[.int .i64 0, .int .u32 0, .int .u32 1, .int .u32 0, .int .u32 0, .int .i64 0] 60)
  replace f1 := f1.alloc (.cells #[.int .i64 0, .int .u32 0, .int .u32 1, .int .u32 0, .int .u32 0, .int .i64 0] 60)
  replace f2 := f2.alloc (.cells #[.int .i64 0, .int .u32 0, .int .u32 1, .int .u32 0, .int .u32 0, .int .i64 0] 60)
  have e6 := e5.alloc (by omega) (.cells #[.int .i64 0, .int .u32 0, .int .u32 1, .int .u32 0, .int .u32 0, .int .i64 0] 60)
  have z6 : (W4.alloc (.cells #[.int .i64 0, .int .u32 0, .int .u32 1, .int .u32 0, .int .u32 0, .int .i64 0] 60)).heap.size = w.heap.size + 1 + 1 + 1 + 1 + 1 := by rw [World.size_alloc, z5]
  rw [z5] at r5
  generalize W4.alloc (.cells #[.int .i64 0, .int .u32 0, .int .u32 1, .int .u32 0, .int .u32 0, .int .i64 0] 60) = W5 at *
  generalize hO : Obj.cells #[.string { data := #[86] }, .int .i64 1, .int .u32 4, .int .u32 0, .bool false, .int .i64 0, .int .i64 0, .slice none 0 0, .int .i64 1, .int .u32 4, .int .u32 0, .bool false, .int .i64 0, .int .i64 0, .slice none 0 0,
      .slice (some { block := w.heap.size + 1 + 1 + 1, off := 0 }) 1 1, .slice (some { block := w.heap.size + 1 + 1 + 1 + 1, off := 0 }) 1 1, .int .i64 1] 31 = ob
  have hnw : (W5.alloc ob).heap[W5.heap.size]? = some ob := heap_alloc_new W5 ob
  rw [z6] at hnw
  refine ⟨e6.alloc (by omega) _, by rw [World.size_alloc, z6]; omega, f1.alloc _, f2.alloc _, by rw [← hO] at hnw ⊢; exact hnw, ?_⟩
  refine ⟨[.int .i64 1, .int .u32 4, .int .u32 0, .bool false, .int .i64 0, .int .i64 0, .slice none 0 0], [.int .i64 1, .int .u32 4, .int .u32 0, .bool false, .int .i64 0, .int .i64 0, .slice none 0 0], some ⟨w.heap.size + 1 + 1 + 1, 0, none⟩, 1, some ⟨w.heap.size + 1 + 1 + 1 + 1, 0, none⟩, 1, rfl, ?_, ?_, ?_, ?_, ?_, ?_, ?_, ?_⟩
  · exact patC_mk.2 ⟨none, 0, [], rfl, by unfold ok32 is32; decide, by decide, by decide, Reads.none_, patsC_nil.2 rfl⟩
  · exact patC_mk.2 ⟨none, 0, [], rfl, by unfold ok32 is32; decide, by decide, by decide, Reads.none_, patsC_nil.2 rfl⟩
  · exact (r4.alloc (by omega) _).more (by omega)
  · exact (r5.alloc (by omega) _).more (by omega)
  · intro s hs; simp only [lawT, List.mem_singleton] at hs; subst hs; unfold ok32 is32; decide
  · intro x hx; simp only [lawT, List.mem_singleton] at hx; subst hx; unfold ok32 is32; decide
  · decide
  · decide
set_option maxRecDepth 20000 in
theorem putW_T : putW [(2, 5), (5, 2)] = [2, 2, 5, 5, 2] := by decide
set_option maxRecDepth 20000 in
theorem wordE_T : wordE [(2, 5), (5, 2)] = 0 := by decide
set_option maxRecDepth 20000 in
theorem getW_T : getW [2, 2, 5, 5, 2, 99] = ([(2, 5), (5, 2)], 5, 0) := by decide
set_option maxRecDepth 20000 in
theorem lawE_T : lawE lawT = 0 := by decide
set_option maxRecDepth 20000 in
theorem putL_T : putL lawT = [1, 86, 1, 4, 0, 0, 1, 4, 0, 0, 1, 2, 0, 1, 1, 0, 1, 0, 0, 0, 1] := by decide
set_option maxRecDepth 20000 in
theorem sumB_T : sumB [49, 50, 51, 52, 53, 54, 55, 56, 57] = 3421780262 := by decide
end Go.Proofs.YtipfhamhiaeieaaDoor
