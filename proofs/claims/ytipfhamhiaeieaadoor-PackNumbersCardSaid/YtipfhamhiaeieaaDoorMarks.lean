/-
  Marks of loops over functions that are done, on a frame's list of deferred calls. Conditions: none. Of no program.
-/
import Derived.Test.YtipfhamhiaeieaaDoorTurn
import Derived.Sort.LoopGhostIn
namespace Go.Proofs.YtipfhamhiaeieaaDoor
open Go.RowKit Go.Shelf Go.Lib

theorem put_blk {W : World} {g l : Nat} {t : TypeId} {cs : Array Value} {o o' : Obj} (h : Blk W g t cs) (hl : W.heap[l]? = some o) (ho : o.isCells = false) : Blk (W.putObj l o') g t cs :=
  (World.putObj_heap_other (fun e => by subst e; unfold Blk at h; rw [h] at hl; injection hl with hl; subst hl; simp [Obj.isCells] at ho)).trans h
/-- Marks of loops that are done. -/
def Marks (B : Nat) : List Deferred → World → Prop
  | [], _ => True
  | d :: ds, W => (∃ D, d.target = .collected D ∧ B ≤ D ∧ W.heap[D]? = some (.deferred (some [])) ∧ ∀ d' ∈ ds, d'.target ≠ .collected D) ∧ Marks B ds W
theorem Marks.keep {B : Nat} : ∀ {ds : List Deferred} {W W' : World}, Marks B ds W → (∀ d ∈ ds, ∀ D, d.target = .collected D → W.heap[D]? = some (.deferred (some [])) → W'.heap[D]? = some (.deferred (some []))) → Marks B ds W'
  | [], _, _, _, _ => trivial
  | d :: ds, _, _, ⟨⟨D, h1, h2, h3, h4⟩, h5⟩, hk => ⟨⟨D, h1, h2, hk d (by simp) D h1 h3, h4⟩, h5.keep fun d' hd' D' h6 h7 => hk d' (by simp [hd']) D' h6 h7⟩
theorem Marks.later {B : Nat} {ds : List Deferred} {W W' : World} (h : Marks B ds W) (hb : Below W.heap.size W W') : Marks B ds W' :=
  h.keep fun _ _ _ _ h7 => (hb.block _ (Array.getElem?_eq_some_iff.1 h7).1).trans h7
theorem Marks.others {B : Nat} {ds : List Deferred} {W W' : World} (h : Marks B ds W) (hk : KeepsOthers W W') : Marks B ds W' := h.keep fun _ _ D _ h7 => hk.same D _ h7 rfl
theorem Marks.lt {B : Nat} : ∀ {ds : List Deferred} {W : World}, Marks B ds W → ∀ d ∈ ds, ∀ D, d.target = .collected D → D < W.heap.size
  | [], _, _, d, hd, _, _ => by cases hd
  | d0 :: ds, W, ⟨⟨D0, h1, h2, h3, h4⟩, h5⟩, d, hd, D, hD => by
    rcases List.mem_cons.1 hd with rfl | hd
    · rw [h1] at hD; injection hD with hD; subst hD; exact (Array.getElem?_eq_some_iff.1 h3).1
    · exact Marks.lt h5 d hd D hD
theorem leaves_marks {F : Fence} {n : Nat} {P : Program} {fn : Func} {tmps : Array Value} {R : Ending → World → Prop} {B : Nat} (Pq : World → Prop)
    (hP : ∀ W D, Pq W → B ≤ D → W.heap[D]? = some (.deferred (some [])) → Pq (W.putObj D (.deferred none))) (hend : ∀ W, Pq W → LeavesIn F n P fn tmps R [] .returning W) :
    ∀ (ds : List Deferred) (W : World), Marks B ds W → Pq W → LeavesInM F n P fn tmps R ds .returning W
  | [], W, _, h => hend W h
  | d :: ds, W, ⟨⟨D, h1, h2, h3, h4⟩, h5⟩, h => ⟨by simp, .inl ⟨D, _, h1, run_takeDeferred h3, leaves_marks Pq hP hend ds _ (h5.keep fun d' hd' D' h6 h7 => by
      have hne : D ≠ D' := fun e => h4 d' hd' (e ▸ h6)
      exact (World.putObj_heap_other hne.symm).trans h7) (hP W D h h2 h3)⟩⟩
theorem own_turnK {mine : Nat → Prop} {B b0 : Nat} {e : TypeId} {size n : Nat} {v : Value} {xs : List Value} {W W' : World} {row : Option Nat} (h : W.ownsRow b0 e size v n xs) (hg : W.grownBy W' row) (hr : ∀ r, row = some r → mine r ∨ (B ≤ r ∧ ∃ o : Obj, W.heap[r]? = some o ∧ o.isCells = false)) (hm : ∀ r, mine r → r < b0) : W'.ownsRow b0 e size v n xs := by
  refine h.kept hg ?_
  rcases h.2 with ⟨rfl, _⟩ | ⟨g, cap, cur, rfl, hb, hh, _⟩
  · exact .inl rfl
  · refine .inr (fun e => ?_)
    simp only [Value.ownBlock] at e
    rcases hr g e.symm with h1 | ⟨_, o, ho, hc⟩
    · have := hm g h1; omega
    · rw [hh] at ho; injection ho with ho; subst ho; simp [Obj.isCells] at hc
theorem own_cellsK {w : World} {b : Nat} {e : TypeId} {size n : Nat} {v : Value} {xs : List Value} (h : w.ownsRow b e size v n xs) : ∀ (j : Nat) (o : Obj), v.ownBlock = some j → w.heap[j]? = some o → o.isCells = true := by
  intro j o hj ho
  rcases h.2 with ⟨rfl, _⟩ | ⟨g, cap, cur, rfl, hb, hh, _⟩
  · cases hj
  · simp only [Value.ownBlock, Option.some.injEq] at hj; subst hj
    rw [hh] at ho; injection ho with ho; subst ho; rfl
end Go.Proofs.YtipfhamhiaeieaaDoor
