/-
  A range over an iterator that keeps state in blocks of its own ('mine'): one law for the caller, at the wide fence. Conditions: none beside the law's own premises.
-/
import Derived.Test.YtohggdfplmlinaaGreatDoorZaaa
import Derived.RangeFuncFrom
import Derived.RangeFuncNested
import Derived.RangeFuncBound
import Derived.RangeFuncCalls
import Derived.RangeFuncLeaves
import Derived.Shelf.Abstract
import Derived.Shelf.RegionOpen
import Derived.OwnWalkIn
import Derived.TacticsInMore
import Derived.LoopNIn
import Derived.LoopIn
namespace Go.Proofs.YtohggdfplmlinaaGreatDoor
open Go.RowKit

/-- What a caller's word abides: the iterator's own blocks may turn, and blocks that are no cells and lie at or beyond B. -/
def AbidesB {β : Type} (mine : Nat → Prop) (B : Nat) (I : β → World → Prop) : Prop :=
  ∀ s W W' row, I s W → W.grownBy W' row → (∀ r, row = some r → mine r ∨ (B ≤ r ∧ ∃ o : Obj, W.heap[r]? = some o ∧ o.isCells = false)) → I s W'
theorem AbidesB.put {β : Type} {mine : Nat → Prop} {B : Nat} {I : β → World → Prop} (h : AbidesB mine B I) {s : β} {W : World} {l : Nat} {o : Obj} (o' : Obj) (hs : I s W) (hB : B ≤ l) (hl : W.heap[l]? = some o) (ho : o.isCells = false) : I s (W.putObj l o') :=
  h s W _ (some l) hs (grownBy_putObj' W l o') (fun r e => by cases e; exact .inr ⟨hB, o, hl, ho⟩)
theorem AbidesB.new {β : Type} {mine : Nat → Prop} {B : Nat} {I : β → World → Prop} (h : AbidesB mine B I) {s : β} {W : World} (o : Obj) (hs : I s W) : I s (W.alloc o) :=
  h s W _ none hs (World.grownBy_alloc W o none) (fun r e => by cases e)
theorem AbidesB.and {β : Type} {mine : Nat → Prop} {B : Nat} {I I' : β → World → Prop} (h : AbidesB mine B I) (h' : AbidesB mine B I') : AbidesB mine B (fun s W => I s W ∧ I' s W) := fun s W W' row hs hg hr => ⟨h s W W' row hs.1 hg hr, h' s W W' row hs.2 hg hr⟩
theorem AbidesB.pure_ {β : Type} (mine : Nat → Prop) (B : Nat) (p : β → Prop) : AbidesB mine B (fun s _ => p s) := fun _ _ _ _ hs _ _ => hs
theorem abides_below {β : Type} {mine : Nat → Prop} {n₀ B : Nat} {w₀ : World} (hn : n₀ ≤ w₀.heap.size) (hB : n₀ ≤ B) (hm : ∀ r, mine r → n₀ ≤ r) : AbidesB mine B (fun (_ : β) W => Below n₀ w₀ W) :=
  fun _ _ _ _ hs hg hr => hs.grown hg (Nat.le_trans hn hs.size) (fun k e => by
    rcases hr k e with h | h
    · exact hm k h
    · exact Nat.le_trans hB h.1)

/-- The iterator's side: for whatever rounds, over whatever words J, Jx of the caller's that abide a turn of the iterator's own blocks. -/
def IterAt {α : Type} (P : Program) (gf : Nat) (lb : Array Value) (encs : α → Array Value) (mine : Nat → Prop) (Kp : World → World → Prop) (S Sp : List α → Prop) (N : Nat) (w0 : World) : Prop :=
  ∀ (l : Nat) (J Jx : List α → World → Prop) (W : World), Below w0.heap.size w0 W →
    (∀ s A B row, J s A → A.grownBy B row → (∀ r, row = some r → mine r) → J s B) → (∀ s A B row, Jx s A → A.grownBy B row → (∀ r, row = some r → mine r) → Jx s B) →
    (∀ pre x W1, J pre W1 → pre.length < N → YieldAt Fence.wide 2 P l (encs x) W1 fun e W' =>
      (e = .returned (.bool true) ∧ J (pre ++ [x]) W' ∧ Kp W1 W') ∨ (e = .returned (.bool false) ∧ Jx (pre ++ [x]) W')) →
    J [] W →
    CallsIn Fence.wide 3 P gf (#[.func (.yield l) #[] #[]] ++ lb) W fun e W' => (∃ v, e = .returned v) ∧ ((∃ xs, S xs ∧ J xs W') ∨ (∃ pre, Sp pre ∧ Jx pre W'))

section
variable {P : Program}
/-- How a loop's record lies in memory while the loop runs. -/
def LoopRec (w : World) (fn : FuncId) (tmps : Array Value) (ps : Array Tmp) (assign body : Code) (W : World) (st : LoopState) (pe : Option Code) : Prop :=
  W.heap[w.heap.size + 1]? = some (.loop { state := st, pending := pe, fn, tmps, params := ps, assign, body, defers := w.heap.size }) ∧ W.heap[w.heap.size]? = some (.deferred (some []))

theorem LoopRec.keep {w : World} {fn : FuncId} {tmps : Array Value} {ps : Array Tmp} {assign body : Code} {A B : World} {st : LoopState} {pe : Option Code} {row : Option Nat} (h : LoopRec w fn tmps ps assign body A st pe) (hg : A.grownBy B row) (hr : ∀ r, row = some r → r < w.heap.size) : LoopRec w fn tmps ps assign body B st pe := by
  have h1 := (Array.getElem?_eq_some_iff.1 h.1).1
  have h2 := (Array.getElem?_eq_some_iff.1 h.2).1
  exact ⟨(hg.block _ h1 (fun e => by have := hr _ e.symm; omega)).trans h.1, (hg.block _ h2 (fun e => by have := hr _ e.symm; omega)).trans h.2⟩
theorem LoopRec.set_ {w : World} {fn : FuncId} {tmps : Array Value} {ps : Array Tmp} {assign body : Code} {A : World} {st : LoopState} {pe : Option Code} (h : LoopRec w fn tmps ps assign body A st pe) (st' : LoopState) (pe' : Option Code) :
    LoopRec w fn tmps ps assign body (A.putObj (w.heap.size + 1) (.loop { state := st', pending := pe', fn, tmps, params := ps, assign, body, defers := w.heap.size })) st' pe' :=
  ⟨World.putObj_heap_same (Array.getElem?_eq_some_iff.1 h.1).1, (World.putObj_heap_other (by omega)).trans h.2⟩

theorem range_law {α : Type} {g : Operand} {ps : Array Tmp} {assign body : Code} {Q : Exit → Act → World → Prop} {a : Act} {w : World}
    {gf : Nat} {lb : Array Value} (hg : a.eval g = .func (.func gf) #[] lb) (eg : ∀ args w, (callFunc gf args).run P w = .ok (.enter gf args) w)
    {encs : α → Array Value} {mine : Nat → Prop} {Kp : World → World → Prop} {S Sp : List α → Prop} {N : Nat} {w0 : World} (hit : IterAt P gf lb encs mine Kp S Sp N w0)
    (hmine : ∀ r, mine r → r < w.heap.size)
    (hKt : ∀ {A B C : World}, Kp A B → Kp B C → Kp A C) (hKb : ∀ (W : World) (l : Nat) (o o' : Obj), w.heap.size ≤ l → W.heap[l]? = some o → o.isCells = false → Kp W (W.putObj l o')) (hb0 : Below w0.heap.size w0 w) (hps : ∀ x, (encs x).size = ps.size)
    (I : List α → World → Prop) (Ix : Code → List α → World → Prop) (hI : AbidesB mine w.heap.size I) (hIx : ∀ c, AbidesB mine w.heap.size (Ix c)) (h0 : I [] w) (a₁ : α → Act)
    (hassign : ∀ (l : Nat) (x : α) (W : World) (K : Act → World → Prop), K (a₁ x) W →
      assign.wpIn (Fence.wide.inRound l) 2 P (Exit.then K (fun _ _ _ => False)) { tmps := (ps.zip (encs x)).foldl (fun t (p, v) => t.setIfInBounds p v) a.tmps, defers := [] } W)
    (hbody : ∀ (l : Nat) (pre : List α) (x : α) (W : World), w.heap.size ≤ W.heap.size → I pre W → pre.length < N → body.wpIn (Fence.wide.inRound l) 2 P (ownPostK Kp I Ix (pre ++ [x]) W) (a₁ x) W)
    (hdone : ∀ (D : Nat) (xs : List α) (W : World), w.heap.size ≤ D → S xs → I xs W → W.heap[D]? = some (.deferred (some [])) → Q .normal { a with defers := { target := .collected D, args := #[] } :: a.defers } W)
    (hstop : ∀ (D : Nat) (c : Code) (pre : List α) (W : World), w.heap.size ≤ D → Sp pre → Ix c pre W → W.heap[D]? = some (.deferred (some [])) → c.wpIn Fence.wide 4 P Q { a with defers := { target := .collected D, args := #[] } :: a.defers } W) :
    (Code.rangeFunc g ps assign body).wpIn Fence.wide 4 P Q a w := by
  refine wpIn_rangeFunc fun fn _ => ?_
  obtain ⟨W1, hW1⟩ : ∃ W1, (w.alloc (.deferred (some []))).alloc (.loop { state := .ready, pending := none, fn, tmps := a.tmps, params := ps, assign, body, defers := w.heap.size }) = W1 := ⟨_, rfl⟩
  have hR1 : LoopRec w fn a.tmps ps assign body W1 .ready none := by
    rw [← hW1]
    refine ⟨?_, (Below.heap_alloc _ _ _ (by simp)).trans (World.alloc_heap_new w _)⟩
    have := World.alloc_heap_new (w.alloc (.deferred (some []))) (.loop { state := .ready, pending := none, fn, tmps := a.tmps, params := ps, assign, body, defers := w.heap.size })
    rwa [World.size_alloc] at this
  have hb1 : Below w0.heap.size w0 W1 := by
    rw [← hW1]; exact (hb0.alloc hb0.size _).alloc (by have := hb0.size; simp; omega) _
  have hI1 : I [] W1 := by rw [← hW1]; exact hI.new _ (hI.new _ h0)
  refine ⟨w.heap.size + 1, [{ target := .collected w.heap.size, args := #[] }], W1, { target := .fn (.func gf) lb, args := #[.func (.yield (w.heap.size + 1)) #[] #[]] }, W1, gf,
    #[.func (.yield (w.heap.size + 1)) #[] #[]] ++ lb, W1, by rw [← hW1]; exact run_enterLoop_outer _ _ _ _ _, ?_, fun _ _ => trivial, ?_, fun _ => by omega, ?_⟩
  · simp only [resolve, hg]; simp [go_sem]
  · simp [invoke, go_sem, eg]
  refine (hit (w.heap.size + 1) (fun pre W => I pre W ∧ LoopRec w fn a.tmps ps assign body W .ready none) (fun pre W => ∃ c, Ix c pre W ∧ LoopRec w fn a.tmps ps assign body W .done (some c)) W1 hb1 ?_ ?_ ?_ ⟨hI1, hR1⟩).mono ?_
  · exact fun s A B row hs hgr hr => ⟨hI s A B row hs.1 hgr (fun r e => .inl (hr r e)), hs.2.keep hgr (fun r e => hmine r (hr r e))⟩
  · rintro s A B row ⟨c, hc, hl⟩ hgr hr
    exact ⟨c, hIx c s A B row hc hgr (fun r e => .inl (hr r e)), hl.keep hgr (fun r e => hmine r (hr r e))⟩
  · rintro pre x W ⟨hi, hl⟩ hlen
    refine ⟨fn, _, assign, body, run_yield hl.1 (hps x), ?_⟩
    refine roundIn_of_wpIn (show Fence.wide.fn fn from trivial) ?_
    refine hassign _ x W _ ?_
    refine ⟨_, run_beginRound hl.1 rfl, ?_⟩
    have hl2 := hl.set_ .busy none
    have hsz : w.heap.size ≤ W.heap.size := Nat.le_of_lt (Array.getElem?_eq_some_iff.1 hl.2).1
    have hK2 : Kp W (W.putObj (w.heap.size + 1) (.loop { state := .busy, pending := none, fn, tmps := a.tmps, params := ps, assign, body, defers := w.heap.size })) := hKb _ _ _ _ (by omega) hl.1 rfl
    refine wpIn_mono (hbody _ pre x _ (by simp [World.putObj]; exact hsz) (hI.put _ hi (by omega) hl.1 rfl) hlen) ?_
    have kept : ∀ W3 : World, KeepsOthers (W.putObj (w.heap.size + 1) (.loop { state := .busy, pending := none, fn, tmps := a.tmps, params := ps, assign, body, defers := w.heap.size })) W3 → LoopRec w fn a.tmps ps assign body W3 .busy none :=
      fun W3 hk => ⟨hk.same _ _ hl2.1 rfl, hk.same _ _ hl2.2 rfl⟩
    rintro e a3 W3 hp
    cases e with
    | normal =>
      obtain ⟨hk, hkp, hi3⟩ := hp
      have h3 := kept W3 hk
      exact ⟨_, _, run_endRound none h3.1, .inl ⟨rfl, ⟨hI.put _ hi3 (by omega) h3.1 rfl, h3.set_ _ _⟩, hKt (hKt hK2 hkp) (hKb _ _ _ _ (by omega) h3.1 rfl)⟩⟩
    | ret =>
      obtain ⟨hk, hi3⟩ := hp
      have h3 := kept W3 hk
      exact ⟨_, _, run_endRound (some .ret) h3.1, .inr ⟨rfl, .ret, (hIx _).put _ hi3 (by omega) h3.1 rfl, h3.set_ _ _⟩⟩
    | exit id =>
      obtain ⟨hk, hi3⟩ := hp
      have h3 := kept W3 hk
      exact ⟨_, _, run_endRound (some (.exit id)) h3.1, .inr ⟨rfl, .exit id, (hIx _).put _ hi3 (by omega) h3.1 rfl, h3.set_ _ _⟩⟩
    | goto t =>
      obtain ⟨hk, hi3⟩ := hp
      have h3 := kept W3 hk
      exact ⟨_, _, run_endRound (some (.goto t)) h3.1, .inr ⟨rfl, .goto t, (hIx _).put _ hi3 (by omega) h3.1 rfl, h3.set_ _ _⟩⟩
    | panic ch => exact hp.elim
    | outgrown => exact hp.elim
  · rintro e W2 ⟨⟨v, rfl⟩, (⟨xs, hS, hi, hl⟩ | ⟨pre, hSp, c, hi, hl⟩)⟩
    · exact ⟨none, _, run_endLoop hl.1 (by simp), hdone _ xs _ (Nat.le_refl _) hS (hI.put _ hi (by omega) hl.1 rfl) (hl.set_ .exhausted none).2⟩
    · exact ⟨some c, _, run_endLoop hl.1 (by simp), hstop _ c pre _ (Nat.le_refl _) hSp ((hIx c).put _ hi (by omega) hl.1 rfl) (hl.set_ .exhausted (some c)).2⟩
end
end Go.Proofs.YtohggdfplmlinaaGreatDoor
namespace Go.Proofs.YtohggdfplmlinaaGreatDoor
open Go.RowKit

theorem below_put {n l : Nat} {W : World} {o o' : Obj} (hl : n ≤ l) (h : W.heap[l]? = some o) : Below n W (W.putObj l o') :=
  (Below.refl n W).grown (grownBy_putObj' W l o') (by have := (Array.getElem?_eq_some_iff.1 h).1; omega) (fun k e => by cases e; exact hl)
theorem Blk.turn {mine : Nat → Prop} {B g : Nat} {t : TypeId} {cs : Array Value} {W W' : World} {row : Option Nat} (h : Blk W g t cs) (hg : W.grownBy W' row) (hr : ∀ r, row = some r → mine r ∨ (B ≤ r ∧ ∃ o : Obj, W.heap[r]? = some o ∧ o.isCells = false)) (hm : ¬ mine g) : Blk W' g t cs :=
  h.grown hg (fun e => by
    rcases hr g e.symm with h1 | ⟨_, o, ho, hc⟩
    · exact hm h1
    · unfold Blk at h; rw [h] at ho; injection ho with ho; subst ho; simp [Obj.isCells] at hc)
theorem own_turn {mine : Nat → Prop} {B b0 k : Nat} {e : TypeId} {n : Nat} {v : Value} {xs : List Value} {W W' : World} {row : Option Nat} (h : W.ownsRow b0 e k v n xs) (hg : W.grownBy W' row) (hr : ∀ r, row = some r → mine r ∨ (B ≤ r ∧ ∃ o : Obj, W.heap[r]? = some o ∧ o.isCells = false)) (hm : ∀ r, mine r → r < b0) : W'.ownsRow b0 e k v n xs := by
  refine h.kept hg ?_
  rcases h.2 with ⟨rfl, _⟩ | ⟨g, cap, cur, rfl, hb, hh, _⟩
  · exact .inl rfl
  · refine .inr (fun e => ?_)
    simp only [Value.ownBlock] at e
    rcases hr g e.symm with h1 | ⟨_, o, ho, hc⟩
    · have := hm g h1; omega
    · rw [hh] at ho; injection ho with ho; subst ho; simp [Obj.isCells] at hc

theorem own_cells {w : World} {b k : Nat} {e : TypeId} {n : Nat} {v : Value} {xs : List Value} (h : w.ownsRow b e k v n xs) : ∀ (j : Nat) (o : Obj), v.ownBlock = some j → w.heap[j]? = some o → o.isCells = true := by
  intro j o hj ho
  rcases h.2 with ⟨rfl, _⟩ | ⟨g, cap, cur, rfl, hb, hh, _⟩
  · cases hj
  · simp only [Value.ownBlock, Option.some.injEq] at hj; subst hj
    rw [hh] at ho; injection ho with ho; subst ho; rfl

end Go.Proofs.YtohggdfplmlinaaGreatDoor
