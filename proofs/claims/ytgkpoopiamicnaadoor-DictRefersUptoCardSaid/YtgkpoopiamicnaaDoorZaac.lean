/-
  What the claims of layer 40 have in common: the library's variables as a world holds them. Conditions: none.
-/
import Derived.Test.YtgkpoopiamicnaaDoorCards
import Derived.Test.YtgkpoopiamicnaaDoorTie
import Derived.Test.YtgkpoopiamicnaaDoorZaaa
import Derived.Test.YtgkpoopiamicnaaDoorZaab
import Derived.Deep.DeepLaidRun
import Derived.StillTailTactics
import Derived.RangeFuncFrom
import Derived.RangeFuncNested
import Derived.RangeFuncBound
import Derived.RangeFuncCalls
import Derived.RangeFuncLeaves
import Derived.Shelf.Abstract
import Derived.Shelf.RegionOpen
import Derived.OwnWalkIn
import Derived.TacticsInMore
import Derived.LoopNIn
import Derived.LoopIn
import Derived.Test.YtgkpoopiamicnaaDoorProg
import Derived.WalkKit
import Derived.Laws.BitsAllLaws
import Derived.Laws.IdiomStrings
import Derived.WalkSmall
namespace Go.Proofs.YtgkpoopiamicnaaDoor
open Go.ChangeShapes Go.WideShapes Go.ChangeAt Go.RowKit

theorem own : ownKnob Tryd.prog.godebug = none := by kernel_rfl
theorem laidOut : laidOutB Tryd.prog = true := by kernel_rfl
theorem maxOk {W : World} (h : W.ShapedOpen Tryd.prog) : MaxOk W :=
  cell_of_shapedOpen_int (zero := #[.int .i64 0]) (t := 3) h (of_decide_eq_true (by kernel_rfl)) (by kernel_rfl) rfl (by kernel_rfl) (by kernel_rfl) Tryd.underlying3
/-- The cells of a table of integers, or of rows of them. -/
def flat1 : DataW Unit → List Value
  | .lit (.int k n) => [.int k n]
  | _ => []
def flat2 : DataW Unit → List Value
  | .agg ps => ps.flatMap fun
    | .agg qs => qs.flatMap flat1
    | d => flat1 d
  | _ => []
def putTab (t : DataW Unit) : Obj → Obj
  | .cells _ ty fr => .cells (flat2 t).toArray ty fr
  | o => o
/-- A world for the witness: the settled one, the tables holding what the row lists. -/
noncomputable def laidWorld (os : Os) (b1 b2 : Nat) (t1 t2 : DataW Unit) : World :=
  { World.holding Tryd.prog os ⟨#[], #[], []⟩ with heap := ((World.holding Tryd.prog os ⟨#[], #[], []⟩).heap.modify b1 (putTab t1)).modify b2 (putTab t2) }
noncomputable abbrev world40 (os : Os) : World := laidWorld os 2 1 Rows.laid_unicode_utf8_acceptRanges Rows.laid_unicode_utf8_first
theorem laid_met (os : Os) (args : Array Value) : laidMet Tryd.prog [("unicode/utf8.acceptRanges", Rows.laid_unicode_utf8_acceptRanges), ("unicode/utf8.first", Rows.laid_unicode_utf8_first)] ((world40 os).forCall (fun _ _ => 0) ⟨#[], args, []⟩).memory :=
  laidMet_of_run3 8 (by kernel_rfl) (by kernel_rfl) (by kernel_rfl)
theorem world_vars (os : Os) (args : Array Value) : ((world40 os).forCall (fun _ _ => 0) ⟨#[], args, []⟩).variablesB Tryd.prog = true := by kernel_rfl
theorem world_rest (os : Os) (args : Array Value) : (((world40 os).forCall (fun _ _ => 0) ⟨#[], args, []⟩).heap.toList.drop Tryd.prog.globals.size).take ((begin Tryd.prog (fun _ _ => 0) default).world.heap.size - Tryd.prog.globals.size) =
      (begin Tryd.prog (fun _ _ => 0) default).world.heap.toList.drop Tryd.prog.globals.size := by kernel_rfl
end Go.Proofs.YtgkpoopiamicnaaDoor
namespace Go.Proofs.YtgkpoopiamicnaaDoor
open Go.RowKit

theorem region_tail {P : Program} {id : Nat} {Q : Exit → Act → World → Prop} {a : Act} {w : World} {l : List Oper} (n : Nat) (hm : P.follows .mixedOrders = true) (hB : Region.lexTailB .any l.toArray n = true)
    (h : wpStill P l.toArray w.drew (fun a' => wpList P l.toArray Q (l.drop n) a' w.drew) (l.take n) a) : (Code.region id l.toArray true).wp P Q a w := wp_region_still_tail n hm hB h
theorem add_at (b j : Nat) : (⟨b, 0, none⟩ : Addr).add j = ⟨b, j, none⟩ := by unfold Addr.add; split <;> simp_all
/-- A block that was just made reads as what lies in it. -/
theorem reads_new (w : World) (t : TypeId) (cs : List Value) : Reads (w.alloc (.cells cs.toArray t)) (w.heap.size + 1) 1 (some ⟨w.heap.size, 0, none⟩) cs.length cs := by
  refine ⟨by simp, fun _ => ⟨_, rfl, by simp, fun j u hu => ?_⟩⟩
  rw [add_at, (Blk.new w t cs.toArray).cell j]
  simpa using hu
end Go.Proofs.YtgkpoopiamicnaaDoor
namespace Go.Proofs.YtgkpoopiamicnaaDoor
open Go.RowKit

section
variable {α : Type} [Inhabited α]
omit [Inhabited α] in
theorem flatMap_len (f : α → List Value) (k : Nat) (hk : ∀ x, (f x).length = k) (l : List α) : (l.flatMap f).length = l.length * k := by
  induction l with
  | nil => simp
  | cons x l ih => rw [List.flatMap_cons, List.length_append, hk, ih, List.length_cons, Nat.add_mul, Nat.one_mul, Nat.add_comm]
theorem flatMap_get (f : α → List Value) (k : Nat) (hk : ∀ x, (f x).length = k) (l : List α) : ∀ t, t < l.length * k → (l.flatMap f)[t]? = some ((f l[t / k]!)[t % k]!) := by
  induction l with
  | nil => intro t h; simp at h
  | cons x l ih =>
    intro t h
    rw [List.length_cons, Nat.add_mul, Nat.one_mul] at h
    have k0 : 0 < k := by
      rcases Nat.eq_zero_or_pos k with e | e
      · subst e; simp at h
      · exact e
    rw [List.flatMap_cons]
    rcases Nat.lt_or_ge t k with ht | ht
    · rw [List.getElem?_append_left (by rw [hk]; exact ht), Nat.div_eq_of_lt ht, Nat.mod_eq_of_lt ht]
      simp [getElem!_pos, hk, ht]
    · rw [List.getElem?_append_right (by rw [hk]; exact ht), hk, ih (t - k) (by omega)]
      have e1 : t / k = (t - k) / k + 1 := by
        conv => lhs; rw [show t = (t - k) + k by omega]
        rw [Nat.add_div_right _ k0]
      have e2 : t % k = (t - k) % k := by
        conv => lhs; rw [show t = (t - k) + k by omega]
        rw [Nat.add_mod_right]
      rw [e1, e2]
      simp
end
end Go.Proofs.YtgkpoopiamicnaaDoor
namespace Go.Proofs.YtgkpoopiamicnaaDoor
open Go.RowKit

/-- What a caller's word abides: the iterator's own blocks may turn, and blocks that are no cells and lie at or beyond B. -/
def AbidesB {β : Type} (mine : Nat → Prop) (B : Nat) (I : β → World → Prop) : Prop :=
  ∀ s W W' row, I s W → W.grownBy W' row → (∀ r, row = some r → mine r ∨ (B ≤ r ∧ ∃ o : Obj, W.heap[r]? = some o ∧ o.isCells = false)) → I s W'
theorem AbidesB.put {β : Type} {mine : Nat → Prop} {B : Nat} {I : β → World → Prop} (h : AbidesB mine B I) {s : β} {W : World} {l : Nat} {o : Obj} (o' : Obj) (hs : I s W) (hB : B ≤ l) (hl : W.heap[l]? = some o) (ho : o.isCells = false) : I s (W.putObj l o') :=
  h s W _ (some l) hs (grownBy_putObj' W l o') (fun r e => by cases e; exact .inr ⟨hB, o, hl, ho⟩)
theorem AbidesB.new {β : Type} {mine : Nat → Prop} {B : Nat} {I : β → World → Prop} (h : AbidesB mine B I) {s : β} {W : World} (o : Obj) (hs : I s W) : I s (W.alloc o) :=
  h s W _ none hs (World.grownBy_alloc W o none) (fun r e => by cases e)
theorem AbidesB.and {β : Type} {mine : Nat → Prop} {B : Nat} {I I' : β → World → Prop} (h : AbidesB mine B I) (h' : AbidesB mine B I') : AbidesB mine B (fun s W => I s W ∧ I' s W) := fun s W W' row hs hg hr => ⟨h s W W' row hs.1 hg hr, h' s W W' row hs.2 hg hr⟩
theorem AbidesB.pure_ {β : Type} (mine : Nat → Prop) (B : Nat) (p : β → Prop) : AbidesB mine B (fun s _ => p s) := fun _ _ _ _ hs _ _ => hs
theorem abides_below {β : Type} {mine : Nat → Prop} {n₀ B : Nat} {w₀ : World} (hn : n₀ ≤ w₀.heap.size) (hB : n₀ ≤ B) (hm : ∀ r, mine r → n₀ ≤ r) : AbidesB mine B (fun (_ : β) W => Below n₀ w₀ W) :=
  fun _ _ _ _ hs hg hr => hs.grown hg (Nat.le_trans hn hs.size) (fun k e => by
    rcases hr k e with h | h
    · exact hm k h
    · exact Nat.le_trans hB h.1)

/-- The iterator's side: for whatever rounds, over whatever words J, Jx of the caller's that abide a turn of the iterator's own blocks. -/
def IterAt {α : Type} (P : Program) (gf : Nat) (lb : Array Value) (encs : α → Array Value) (mine : Nat → Prop) (Kp : World → World → Prop) (S Sp : List α → Prop) (N : Nat) (w0 : World) : Prop :=
  ∀ (l : Nat) (J Jx : List α → World → Prop) (W : World), Below w0.heap.size w0 W →
    (∀ s A B row, J s A → A.grownBy B row → (∀ r, row = some r → mine r) → J s B) → (∀ s A B row, Jx s A → A.grownBy B row → (∀ r, row = some r → mine r) → Jx s B) →
    (∀ pre x W1, J pre W1 → pre.length < N → YieldAt Fence.wide 2 P l (encs x) W1 fun e W' =>
      (e = .returned (.bool true) ∧ J (pre ++ [x]) W' ∧ Kp W1 W') ∨ (e = .returned (.bool false) ∧ Jx (pre ++ [x]) W')) →
    J [] W →
    CallsIn Fence.wide 3 P gf (#[.func (.yield l) #[] #[]] ++ lb) W fun e W' => (∃ v, e = .returned v) ∧ ((∃ xs, S xs ∧ J xs W') ∨ (∃ pre, Sp pre ∧ Jx pre W'))

section
variable {P : Program}
/-- How a loop's record lies in memory while the loop runs. -/
def LoopRec (w : World) (fn : FuncId) (tmps : Array Value) (ps : Array Tmp) (assign body : Code) (W : World) (st : LoopState) (pe : Option Code) : Prop :=
  W.heap[w.heap.size + 1]? = some (.loop { state := st, pending := pe, fn, tmps, params := ps, assign, body, defers := w.heap.size }) ∧ W.heap[w.heap.size]? = some (.deferred (some []))

theorem LoopRec.keep {w : World} {fn : FuncId} {tmps : Array Value} {ps : Array Tmp} {assign body : Code} {A B : World} {st : LoopState} {pe : Option Code} {row : Option Nat} (h : LoopRec w fn tmps ps assign body A st pe) (hg : A.grownBy B row) (hr : ∀ r, row = some r → r < w.heap.size) : LoopRec w fn tmps ps assign body B st pe := by
  have h1 := (Array.getElem?_eq_some_iff.1 h.1).1
  have h2 := (Array.getElem?_eq_some_iff.1 h.2).1
  exact ⟨(hg.block _ h1 (fun e => by have := hr _ e.symm; omega)).trans h.1, (hg.block _ h2 (fun e => by have := hr _ e.symm; omega)).trans h.2⟩
theorem LoopRec.set_ {w : World} {fn : FuncId} {tmps : Array Value} {ps : Array Tmp} {assign body : Code} {A : World} {st : LoopState} {pe : Option Code} (h : LoopRec w fn tmps ps assign body A st pe) (st' : LoopState) (pe' : Option Code) :
    LoopRec w fn tmps ps assign body (A.putObj (w.heap.size + 1) (.loop { state := st', pending := pe', fn, tmps, params := ps, assign, body, defers := w.heap.size })) st' pe' :=
  ⟨World.putObj_heap_same (Array.getElem?_eq_some_iff.1 h.1).1, (World.putObj_heap_other (by omega)).trans h.2⟩

theorem range_law {α : Type} {g : Operand} {ps : Array Tmp} {assign body : Code} {Q : Exit → Act → World → Prop} {a : Act} {w : World}
    {gf : Nat} {lb : Array Value} (hg : a.eval g = .func (.func gf) #[] lb) (eg : ∀ args w, (callFunc gf args).run P w = .ok (.enter gf args) w)
    {encs : α → Array Value} {mine : Nat → Prop} {Kp : World → World → Prop} {S Sp : List α → Prop} {N : Nat} {w0 : World} (hit : IterAt P gf lb encs mine Kp S Sp N w0)
    (hmine : ∀ r, mine r → r < w.heap.size)
    (hKt : ∀ {A B C : World}, Kp A B → Kp B C → Kp A C) (hKb : ∀ (W : World) (l : Nat) (o o' : Obj), w.heap.size ≤ l → W.heap[l]? = some o → o.isCells = false → Kp W (W.putObj l o')) (hb0 : Below w0.heap.size w0 w) (hps : ∀ x, (encs x).size = ps.size)
    (I : List α → World → Prop) (Ix : Code → List α → World → Prop) (hI : AbidesB mine w.heap.size I) (hIx : ∀ c, AbidesB mine w.heap.size (Ix c)) (h0 : I [] w) (a₁ : α → Act)
    (hassign : ∀ (l : Nat) (x : α) (W : World) (K : Act → World → Prop), K (a₁ x) W →
      assign.wpIn (Fence.wide.inRound l) 2 P (Exit.then K (fun _ _ _ => False)) { tmps := (ps.zip (encs x)).foldl (fun t (p, v) => t.setIfInBounds p v) a.tmps, defers := [] } W)
    (hbody : ∀ (l : Nat) (pre : List α) (x : α) (W : World), w.heap.size ≤ W.heap.size → I pre W → pre.length < N → body.wpIn (Fence.wide.inRound l) 2 P (ownPostK Kp I Ix (pre ++ [x]) W) (a₁ x) W)
    (hdone : ∀ (D : Nat) (xs : List α) (W : World), w.heap.size ≤ D → S xs → I xs W → W.heap[D]? = some (.deferred (some [])) → Q .normal { a with defers := { target := .collected D, args := #[] } :: a.defers } W)
    (hstop : ∀ (D : Nat) (c : Code) (pre : List α) (W : World), w.heap.size ≤ D → Sp pre → Ix c pre W → W.heap[D]? = some (.deferred (some [])) → c.wpIn Fence.wide 4 P Q { a with defers := { target := .collected D, args := #[] } :: a.defers } W) :
    (Code.rangeFunc g ps assign body).wpIn Fence.wide 4 P Q a w := by
  refine wpIn_rangeFunc fun fn _ => ?_
  obtain ⟨W1, hW1⟩ : ∃ W1, (w.alloc (.deferred (some []))).alloc (.loop { state := .ready, pending := none, fn, tmps := a.tmps, params := ps, assign, body, defers := w.heap.size }) = W1 := ⟨_, rfl⟩
  have hR1 : LoopRec w fn a.tmps ps assign body W1 .ready none := by
    rw [← hW1]
    refine ⟨?_, (Below.heap_alloc _ _ _ (by simp)).trans (World.alloc_heap_new w _)⟩
    have := World.alloc_heap_new (w.alloc (.deferred (some []))) (.loop { state := .ready, pending := none, fn, tmps := a.tmps, params := ps, assign, body, defers := w.heap.size })
    rwa [World.size_alloc] at this
  have hb1 : Below w0.heap.size w0 W1 := by
    rw [← hW1]; exact (hb0.alloc hb0.size _).alloc (by have := hb0.size; simp; omega) _
  have hI1 : I [] W1 := by rw [← hW1]; exact hI.new _ (hI.new _ h0)
  refine ⟨w.heap.size + 1, [{ target := .collected w.heap.size, args := #[] }], W1, { target := .fn (.func gf) lb, args := #[.func (.yield (w.heap.size + 1)) #[] #[]] }, W1, gf,
    #[.func (.yield (w.heap.size + 1)) #[] #[]] ++ lb, W1, by rw [← hW1]; exact run_enterLoop_outer _ _ _ _ _, ?_, fun _ _ => trivial, ?_, fun _ => by omega, ?_⟩
  · simp only [resolve, hg]; simp [go_sem]
  · simp [invoke, go_sem, eg]
  refine (hit (w.heap.size + 1) (fun pre W => I pre W ∧ LoopRec w fn a.tmps ps assign body W .ready none) (fun pre W => ∃ c, Ix c pre W ∧ LoopRec w fn a.tmps ps assign body W .done (some c)) W1 hb1 ?_ ?_ ?_ ⟨hI1, hR1⟩).mono ?_
  · exact fun s A B row hs hgr hr => ⟨hI s A B row hs.1 hgr (fun r e => .inl (hr r e)), hs.2.keep hgr (fun r e => hmine r (hr r e))⟩
  · rintro s A B row ⟨c, hc, hl⟩ hgr hr
    exact ⟨c, hIx c s A B row hc hgr (fun r e => .inl (hr r e)), hl.keep hgr (fun r e => hmine r (hr r e))⟩
  · rintro pre x W ⟨hi, hl⟩ hlen
    refine ⟨fn, _, assign, body, run_yield hl.1 (hps x), ?_⟩
    refine roundIn_of_wpIn (show Fence.wide.fn fn from trivial) ?_
    refine hassign _ x W _ ?_
    refine ⟨_, run_beginRound hl.1 rfl, ?_⟩
    have hl2 := hl.set_ .busy none
    have hsz : w.heap.size ≤ W.heap.size := Nat.le_of_lt (Array.getElem?_eq_some_iff.1 hl.2).1
    have hK2 : Kp W (W.putObj (w.heap.size + 1) (.loop { state := .busy, pending := none, fn, tmps := a.tmps, params := ps, assign, body, defers := w.heap.size })) := hKb _ _ _ _ (by omega) hl.1 rfl
    refine wpIn_mono (hbody _ pre x _ (by simp [World.putObj]; exact hsz) (hI.put _ hi (by omega) hl.1 rfl) hlen) ?_
    have kept : ∀ W3 : World, KeepsOthers (W.putObj (w.heap.size + 1) (.loop { state := .busy, pending := none, fn, tmps := a.tmps, params := ps, assign, body, defers := w.heap.size })) W3 → LoopRec w fn a.tmps ps assign body W3 .busy none :=
      fun W3 hk => ⟨hk.same _ _ hl2.1 rfl, hk.same _ _ hl2.2 rfl⟩
    rintro e a3 W3 hp
    cases e with
    | normal =>
      obtain ⟨hk, hkp, hi3⟩ := hp
      have h3 := kept W3 hk
      exact ⟨_, _, run_endRound none h3.1, .inl ⟨rfl, ⟨hI.put _ hi3 (by omega) h3.1 rfl, h3.set_ _ _⟩, hKt (hKt hK2 hkp) (hKb _ _ _ _ (by omega) h3.1 rfl)⟩⟩
    | ret =>
      obtain ⟨hk, hi3⟩ := hp
      have h3 := kept W3 hk
      exact ⟨_, _, run_endRound (some .ret) h3.1, .inr ⟨rfl, .ret, (hIx _).put _ hi3 (by omega) h3.1 rfl, h3.set_ _ _⟩⟩
    | exit id =>
      obtain ⟨hk, hi3⟩ := hp
      have h3 := kept W3 hk
      exact ⟨_, _, run_endRound (some (.exit id)) h3.1, .inr ⟨rfl, .exit id, (hIx _).put _ hi3 (by omega) h3.1 rfl, h3.set_ _ _⟩⟩
    | goto t =>
      obtain ⟨hk, hi3⟩ := hp
      have h3 := kept W3 hk
      exact ⟨_, _, run_endRound (some (.goto t)) h3.1, .inr ⟨rfl, .goto t, (hIx _).put _ hi3 (by omega) h3.1 rfl, h3.set_ _ _⟩⟩
    | panic ch => exact hp.elim
    | outgrown => exact hp.elim
  · rintro e W2 ⟨⟨v, rfl⟩, (⟨xs, hS, hi, hl⟩ | ⟨pre, hSp, c, hi, hl⟩)⟩
    · exact ⟨none, _, run_endLoop hl.1 (by simp), hdone _ xs _ (Nat.le_refl _) hS (hI.put _ hi (by omega) hl.1 rfl) (hl.set_ .exhausted none).2⟩
    · exact ⟨some c, _, run_endLoop hl.1 (by simp), hstop _ c pre _ (Nat.le_refl _) hSp ((hIx c).put _ hi (by omega) hl.1 rfl) (hl.set_ .exhausted (some c)).2⟩
end
end Go.Proofs.YtgkpoopiamicnaaDoor
namespace Go.Proofs.YtgkpoopiamicnaaDoor
open Go.RowKit

theorem below_put {n l : Nat} {W : World} {o o' : Obj} (hl : n ≤ l) (h : W.heap[l]? = some o) : Below n W (W.putObj l o') :=
  (Below.refl n W).grown (grownBy_putObj' W l o') (by have := (Array.getElem?_eq_some_iff.1 h).1; omega) (fun k e => by cases e; exact hl)
theorem Blk.turn {mine : Nat → Prop} {B g : Nat} {t : TypeId} {cs : Array Value} {W W' : World} {row : Option Nat} (h : Blk W g t cs) (hg : W.grownBy W' row) (hr : ∀ r, row = some r → mine r ∨ (B ≤ r ∧ ∃ o : Obj, W.heap[r]? = some o ∧ o.isCells = false)) (hm : ¬ mine g) : Blk W' g t cs :=
  h.grown hg (fun e => by
    rcases hr g e.symm with h1 | ⟨_, o, ho, hc⟩
    · exact hm h1
    · unfold Blk at h; rw [h] at ho; injection ho with ho; subst ho; simp [Obj.isCells] at hc)
theorem own_turn {mine : Nat → Prop} {B b0 k : Nat} {e : TypeId} {n : Nat} {v : Value} {xs : List Value} {W W' : World} {row : Option Nat} (h : W.ownsRow b0 e k v n xs) (hg : W.grownBy W' row) (hr : ∀ r, row = some r → mine r ∨ (B ≤ r ∧ ∃ o : Obj, W.heap[r]? = some o ∧ o.isCells = false)) (hm : ∀ r, mine r → r < b0) : W'.ownsRow b0 e k v n xs := by
  refine h.kept hg ?_
  rcases h.2 with ⟨rfl, _⟩ | ⟨g, cap, cur, rfl, hb, hh, _⟩
  · exact .inl rfl
  · refine .inr (fun e => ?_)
    simp only [Value.ownBlock] at e
    rcases hr g e.symm with h1 | ⟨_, o, ho, hc⟩
    · have := hm g h1; omega
    · rw [hh] at ho; injection ho with ho; subst ho; simp [Obj.isCells] at hc

theorem own_cells {w : World} {b k : Nat} {e : TypeId} {n : Nat} {v : Value} {xs : List Value} (h : w.ownsRow b e k v n xs) : ∀ (j : Nat) (o : Obj), v.ownBlock = some j → w.heap[j]? = some o → o.isCells = true := by
  intro j o hj ho
  rcases h.2 with ⟨rfl, _⟩ | ⟨g, cap, cur, rfl, hb, hh, _⟩
  · cases hj
  · simp only [Value.ownBlock, Option.some.injEq] at hj; subst hj
    rw [hh] at ho; injection ho with ho; subst ho; rfl

end Go.Proofs.YtgkpoopiamicnaaDoor
namespace Go.Proofs.YtgkpoopiamicnaaDoor
open Go.RowKit Go.Lib

abbrev Snd := Nat × Nat
def is32 (n : Nat) : Prop := n < 4294967296
def ok32 (s : Snd) : Prop := is32 s.1 ∧ is32 s.2
abbrev wptr (g : Nat) : Value := .pointer (some ⟨g, 0, none⟩)
abbrev sndC (s : Snd) : List Value := [.int .u32 s.1, .int .u32 s.2]
abbrev sndV (s : Snd) : Value := .agg #[.int .u32 s.1, .int .u32 s.2]
theorem add_next (a : Addr) (n j : Nat) : a.add (n + (j + 1)) = ⟨(a.add n).block, (a.add n).off + (j + 1), none⟩ := by
  unfold Addr.add
  by_cases h : n = 0
  · subst h; simp
  · rw [if_neg h, if_neg (by omega)]; simp [Nat.add_assoc]
theorem Reads.len_of {α : Type} [Inhabited α] {w : World} {B n k : Nat} {A : Option Addr} {l : List α} {f : α → List Value} (h : Reads w B k A n (l.flatMap f)) (hk : ∀ x, (f x).length = k) (k0 : 0 < k) : l.length = n := by
  have := h.1
  rw [flatMap_len f k hk] at this
  exact Nat.eq_of_mul_eq_mul_right k0 this
theorem Reads.row {α : Type} [Inhabited α] {w : World} {B n k i : Nat} {A : Option Addr} {l : List α} {f : α → List Value} (h : Reads w B k A n (l.flatMap f)) (hk : ∀ x, (f x).length = k) (k0 : 0 < k) (hi : i < l.length) :
    ∃ ad, A = some ad ∧ ad.block < B ∧ ∀ j u, (f l[i])[j]? = some u → w.cell? (ad.add (i * k + j)) = some u := by
  have hl := h.len_of hk k0
  obtain ⟨ad, e, hb, hc⟩ := h.2 (by omega)
  refine ⟨ad, e, hb, fun j u hu => hc _ u ?_⟩
  have hj : j < k := by rw [← hk l[i]]; exact (List.getElem?_eq_some_iff.1 hu).1
  have hlt : i * k + j < l.length * k := by
    have : i * k + k ≤ l.length * k := by rw [← Nat.succ_mul]; exact Nat.mul_le_mul_right _ hi
    omega
  rw [flatMap_get f k hk l _ hlt, show (i * k + j) / k = i by rw [Nat.mul_comm, Nat.mul_add_div k0, Nat.div_eq_of_lt hj]; omega, show (i * k + j) % k = j by rw [Nat.mul_comm, Nat.mul_add_mod, Nat.mod_eq_of_lt hj], getElem!_pos l i hi, getElem!_pos (f l[i]) j (by rw [hk]; exact hj), ← hu, List.getElem?_eq_getElem]
theorem snd_cells {w : World} {B n i : Nat} {A : Option Addr} {l : List Snd} (h : Reads w B 2 A n (l.flatMap sndC)) (hi : i < l.length) :
    ∃ ad, A = some ad ∧ ad.block < B ∧ w.cell? (ad.add (i * 2)) = some (.int .u32 l[i].1) ∧ w.cell? ⟨(ad.add (i * 2)).block, (ad.add (i * 2)).off + 1, none⟩ = some (.int .u32 l[i].2) := by
  obtain ⟨ad, e, hb, hc⟩ := h.row (fun _ => rfl) (by decide) hi
  exact ⟨ad, e, hb, hc 0 _ rfl, by rw [← add_next ad (i * 2) 0]; exact hc 1 _ rfl⟩
theorem Reads.pre {w : World} {B k n m : Nat} {A : Option Addr} {xs : List Value} (h : Reads w B k A n xs) (hm : m ≤ n) : Reads w B k A m (xs.take (m * k)) := by
  have hl := h.1
  have hmk : m * k ≤ n * k := Nat.mul_le_mul_right _ hm
  refine ⟨by rw [List.length_take]; omega, fun h0 => ?_⟩
  obtain ⟨ad, e, hb, hc⟩ := h.2 (by omega)
  refine ⟨ad, e, hb, fun j u hu => hc j u ?_⟩
  rw [List.getElem?_take] at hu
  split at hu
  · exact hu
  · cases hu
def validS (s : Snd) : Bool := decide (s.1 &&& s.2 = 0 ∧ s.1 ||| s.2 < 16777216)
theorem validS_true {s : Snd} (h1 : s.1 &&& s.2 = 0) (h2 : s.1 ||| s.2 < 16777216) : validS s = true := decide_eq_true ⟨h1, h2⟩
theorem validS_and {s : Snd} (h : ¬ s.1 &&& s.2 = 0) : validS s = false := decide_eq_false fun h' => h h'.1
theorem validS_or {s : Snd} (h : ¬ s.1 ||| s.2 < 16777216) : validS s = false := decide_eq_false fun h' => h h'.2
set_option maxRecDepth 20000 in
theorem wvalid_any (s : Snd) (w : World) (hs : ok32 s) : Calls Tryd.prog 71 #[sndV s] w fun e w' => e = .returned (.bool (validS s)) ∧ Below w.heap.size w w' := by
  have e1 := u32_and_nat s.1 s.2 hs.1 hs.2
  have e2 := u32_or_nat s.1 s.2 hs.1 hs.2
  have h32 : s.1 ||| s.2 < 4294967296 := Nat.or_lt_two_pow (n := 32) hs.1 hs.2
  obtain ⟨r, hr⟩ : ∃ r, validS s = r := ⟨_, rfl⟩
  rw [hr]
  by_cases h1 : s.1 &&& s.2 = 0
  · by_cases h2 : s.1 ||| s.2 < 16777216
    · rw [validS_true h1 h2] at hr
      subst hr
      obtain ⟨a, b⟩ := s
      simp only [] at *
      rw [h1] at e1
      generalize a ||| b = y at *
      have h2I : (y : Int) / 16777216 = 0 := by omega
      clear h1 hs
      go_enter Tryd.func71, Tryd.ntmps71
      go_wp2
      go_ret
      exact ⟨rfl, (Below.refl _ _).alloc (Nat.le_refl _) _⟩
    · rw [validS_or h2] at hr
      subst hr
      obtain ⟨a, b⟩ := s
      simp only [] at *
      rw [h1] at e1
      generalize a ||| b = y at *
      have h2I : ((y : Int) / 16777216 == 0) = false := by rw [beq_eq_false_iff_ne]; omega
      clear h1 hs
      go_enter Tryd.func71, Tryd.ntmps71
      go_wp2
      go_ret
      exact ⟨rfl, (Below.refl _ _).alloc (Nat.le_refl _) _⟩
  · rw [validS_and h1] at hr
    subst hr
    obtain ⟨a, b⟩ := s
    simp only [] at *
    generalize a &&& b = x at *
    have h1I : ((x : Int) == 0) = false := by rw [beq_eq_false_iff_ne]; omega
    clear h1 hs
    go_enter Tryd.func71, Tryd.ntmps71
    go_wp2
    go_ret
    exact ⟨rfl, (Below.refl _ _).alloc (Nat.le_refl _) _⟩
/-- The error of a word. -/
def wordE (ws : List Snd) : Int := if 32 < ws.length then 11 else if ws.all validS then 0 else 14
set_option maxRecDepth 20000 in
set_option maxHeartbeats 1000000 in
theorem wordCheck_any (A : Option Addr) (n c B : Nat) (ws : List Snd) (w : World) (hr : Reads w B 2 A n (ws.flatMap sndC)) (hB : B ≤ w.heap.size) (hn : n ≤ maxLen) (hok : ∀ s ∈ ws, ok32 s) :
    Calls Tryd.prog 52 #[.slice A n c] w fun e w' => e = .returned (.int .i64 (wordE ws)) ∧ Below w.heap.size w w' := by
  unfold maxLen at hn
  have hwl := hr.len_of (fun _ => rfl) (by decide)
  obtain ⟨r, hre⟩ : ∃ r, wordE ws = r := ⟨_, rfl⟩
  rw [hre]
  unfold wordE at hre
  rw [hwl] at hre
  have HRE := Lib.hid hre; have HR := Lib.hid hr; have HWL := Lib.hid hwl; have HOK := Lib.hid hok
  clear hr hwl hok hre
  by_cases h32 : 32 < n
  · have h32I : (32 : Int) < n := by omega
    go_enter Tryd.func52, Tryd.ntmps52
    go_wp2
    go_ret
    exact ⟨by rw [← HRE.out, if_pos h32]; rfl, Below.refl _ _⟩
  · have h32I : ¬ (32 : Int) < n := by omega
    go_enter Tryd.func52, Tryd.ntmps52
    go_wp2
    go_loopw [10] (fun i wr => ∃ k : Nat, k ≤ n ∧ i = .int .i64 k ∧ (ws.take k).all validS = true ∧ Below w.heap.size w wr) (fun i _ => n - (intOf i).toNat)
    case atStart => exact ⟨0, by omega, rfl, by simp, Below.refl _ _⟩
    case round =>
      obtain ⟨k, hk, rfl, hall, hb⟩ := hrel
      have HALL := Lib.hid hall; have HB := Lib.hid hb
      clear hall hb
      by_cases hlt : k < n
      · have hkl : k < ws.length := by rw [HWL.out]; exact hlt
        have hkI : (k : Int) < (n : Int) := by omega
        obtain ⟨ad, rfl, had, hc0, hc1⟩ := snd_cells (HR.out.below (HB.out.mono hB)) hkl
        have hst : (ws.take (k + 1)).all validS = ((ws.take k).all validS && validS ws[k]) := by rw [List.take_succ_eq_append_getElem hkl, List.all_append]; simp
        have HST := Lib.hid hst
        have hmem := List.getElem_mem hkl
        clear hst
        cases hv : validS ws[k]
        · have hmem' : ¬ (ws.all validS = true) := fun h => by rw [List.all_eq_true.1 h _ hmem] at hv; cases hv
          have HM := Lib.hid hmem'; have HV := Lib.hid hv
          have hOK := HOK.out _ hmem
          clear hmem' hv hmem
          generalize ws[k] = s at *
          go_wp2_with fail
          refine (wvalid_any s _ hOK).mono ?_
          rw [HV.out]
          rintro e w2 ⟨rfl, hb2⟩
          have HB2 := Lib.hid hb2
          clear hb2
          go_wp2
          go_ret
          exact ⟨by rw [← HRE.out, if_neg h32, if_neg HM.out]; rfl, (HB.out.alloc HB.out.size _).trans (HB2.out.mono (by have := HB.out.size; simp; omega))⟩
        · have HV := Lib.hid hv
          have hOK := HOK.out _ hmem
          clear hv hmem
          generalize ws[k] = s at *
          go_wp2_with fail
          refine (wvalid_any s _ hOK).mono ?_
          rw [HV.out]
          rintro e w2 ⟨rfl, hb2⟩
          have HB2 := Lib.hid hb2
          clear hb2
          go_wp2
          go_roundw
          case rel => exact ⟨k + 1, by omega, by go_num, by rw [HST.out, HALL.out, HV.out]; rfl, (HB.out.alloc HB.out.size _).trans (HB2.out.mono (by have := HB.out.size; simp; omega))⟩
          case measure => simp [intOf]; omega
      · obtain rfl : k = n := by omega
        go_wp2
        go_ret
        have := HALL.out
        rw [List.take_of_length_le (by rw [HWL.out]; exact Nat.le_refl _)] at this
        exact ⟨by rw [← HRE.out, if_neg h32, if_pos this]; rfl, HB.out⟩
theorem or_lt24 {a b : Nat} : a ||| b < 16777216 ↔ a < 16777216 ∧ b < 16777216 :=
  ⟨fun h => ⟨Nat.lt_of_le_of_lt Nat.left_le_or h, Nat.lt_of_le_of_lt Nat.right_le_or h⟩, fun h => Nat.or_lt_two_pow (n := 24) h.1 h.2⟩
def bitOk (s : Snd) (f : Nat) : Bool := !(s.1.testBit f && s.2.testBit f) && !((s.1.testBit f || s.2.testBit f) && decide (24 ≤ f))
theorem lt24_bits {n : Nat} (h : n < 4294967296) : n < 16777216 ↔ ∀ f, 24 ≤ f → f < 32 → n.testBit f = false := by
  constructor
  · intro h' f hf _
    exact Nat.testBit_lt_two_pow (Nat.lt_of_lt_of_le h' (Nat.pow_le_pow_right (by decide) hf : 2 ^ 24 ≤ 2 ^ f))
  · intro h'
    refine Nat.lt_pow_two_of_testBit (n := 24) n fun i hi => ?_
    rcases Nat.lt_or_ge i 32 with h2 | h2
    · exact h' i hi h2
    · exact Nat.testBit_lt_two_pow (Nat.lt_of_lt_of_le h (Nat.pow_le_pow_right (by decide) h2 : 2 ^ 32 ≤ 2 ^ i))
theorem validS_bits {s : Snd} (hs : ok32 s) : validS s = (List.range 32).all (bitOk s) := by
  rw [Bool.eq_iff_iff, List.all_eq_true]
  unfold validS
  rw [decide_eq_true_iff, or_lt24, lt24_bits hs.1, lt24_bits hs.2]
  constructor
  · rintro ⟨h1, h2, h3⟩ f hf
    have hf' := List.mem_range.1 hf
    have h4 : (s.1.testBit f && s.2.testBit f) = false := by rw [← Nat.testBit_and, h1, Nat.zero_testBit]
    unfold bitOk
    rw [h4]
    by_cases h24 : 24 ≤ f
    · rw [h2 f h24 hf', h3 f h24 hf']; rfl
    · rw [decide_eq_false h24, Bool.and_false]; rfl
  · intro h
    have h' : ∀ f, f < 32 → bitOk s f = true := fun f hf => h f (List.mem_range.2 hf)
    refine ⟨Nat.eq_of_testBit_eq fun f => ?_, fun f h24 h32 => ?_, fun f h24 h32 => ?_⟩
    · rw [Nat.testBit_and, Nat.zero_testBit]
      rcases Nat.lt_or_ge f 32 with h2 | h2
      · have := h' f h2
        unfold bitOk at this
        cases h5 : (s.1.testBit f && s.2.testBit f)
        · rfl
        · rw [h5] at this; cases this
      · rw [Nat.testBit_lt_two_pow (Nat.lt_of_lt_of_le hs.1 (Nat.pow_le_pow_right (by decide) h2 : 2 ^ 32 ≤ 2 ^ f))]; rfl
    · have := h' f h32
      unfold bitOk at this
      rw [decide_eq_true h24] at this
      cases h5 : s.1.testBit f
      · rfl
      · rw [h5] at this; simp at this
    · have := h' f h32
      unfold bitOk at this
      rw [decide_eq_true h24] at this
      cases h5 : s.2.testBit f
      · rfl
      · rw [h5] at this; simp at this
theorem bit_int (n f : Nat) (hn : n < 4294967296) : bits .and .u32 ((n : Int) / 2 ^ f) 1 = if n.testBit f then 1 else 0 := by
  have e : (n : Int) / 2 ^ f = ((n / 2 ^ f : Nat) : Int) := by simp
  rw [e]
  have h := u32_and_nat (n / 2 ^ f) 1 (Nat.lt_of_le_of_lt (Nat.div_le_self _ _) hn) (by decide)
  rw [Nat.and_one_is_mod] at h
  rw [show ((1 : Nat) : Int) = 1 from rfl] at h
  rw [h, Nat.testBit_eq_decide_div_mod_eq]
  by_cases h1 : n / 2 ^ f % 2 = 1
  · rw [h1]; simp
  · rw [show n / 2 ^ f % 2 = 0 by omega]; simp
theorem snd_ne {s t : Snd} : (((s.1 : Int) == (t.1 : Int)) && ((s.2 : Int) == (t.2 : Int))) = decide (s = t) := by
  rw [Bool.eq_iff_iff]
  simp only [Bool.and_eq_true, beq_iff_eq, decide_eq_true_eq, Prod.ext_iff]
  omega
/-- A row that a call made, as a slice that can be read. -/
theorem own_reads {w : World} {base : Nat} {e : TypeId} {size n : Nat} {v : Value} {xs : List Value} (h : w.ownsRow base e size v n xs) : ∃ A c, v = .slice A n c ∧ n ≤ c ∧ c ≤ maxLen ∧ Reads w w.heap.size size A n xs := by
  obtain ⟨A, c, rfl, h1, h2⟩ := ownsRow_form h
  exact ⟨A, c, rfl, h1, h2, Reads.of_own h⟩
theorem reads_newk (w : World) (t : TypeId) (cs : List Value) (k m : Nat) (h : cs.length = m * k) : Reads (w.alloc (.cells cs.toArray t)) (w.heap.size + 1) k (some ⟨w.heap.size, 0, none⟩) m cs := by
  refine ⟨h, fun _ => ⟨_, rfl, by simp, fun j u hu => ?_⟩⟩
  rw [add_at, (Blk.new w t cs.toArray).cell j]
  simpa using hu
end Go.Proofs.YtgkpoopiamicnaaDoor
namespace Go.Proofs.YtgkpoopiamicnaaDoor
open Go.RowKit

/-- All blocks but those of S are as they were. -/
structure ChgS (S : Nat → Prop) (w w' : World) : Prop where
  os : w'.os = w.os
  tape : w'.tape = w.tape
  output : w'.output = w.output
  size : w.heap.size ≤ w'.heap.size
  block : ∀ k, k < w.heap.size → ¬ S k → w'.heap[k]? = w.heap[k]?
section
variable {S T : Nat → Prop} {a w w' : World}
theorem ChgS.refl (S : Nat → Prop) (w : World) : ChgS S w w := ⟨rfl, rfl, rfl, Nat.le_refl _, fun _ _ _ => rfl⟩
theorem ChgS.trans (h : ChgS S a w) (k : ChgS S w w') : ChgS S a w' :=
  ⟨k.os.trans h.os, k.tape.trans h.tape, k.output.trans h.output, Nat.le_trans h.size k.size, fun i hi hs => (k.block i (Nat.lt_of_lt_of_le hi h.size) hs).trans (h.block i hi hs)⟩
theorem ChgS.mono (h : ChgS S a w) (hs : ∀ k, k < a.heap.size → S k → T k) : ChgS T a w := ⟨h.os, h.tape, h.output, h.size, fun k hk hn => h.block k hk (fun hm => hn (hs k hk hm))⟩
/-- Of what was made behind the beginning nothing is said. -/
theorem ChgS.new (h : ChgS S a w) (k : ChgS T w w') (hT : ∀ i, i < a.heap.size → T i → S i) : ChgS S a w' :=
  ⟨k.os.trans h.os, k.tape.trans h.tape, k.output.trans h.output, Nat.le_trans h.size k.size, fun i hi hs => (k.block i (Nat.lt_of_lt_of_le hi h.size) (fun hm => hs (hT i hi hm))).trans (h.block i hi hs)⟩
theorem ChgS.of_below (h : Below w.heap.size w w') : ChgS S w w' := ⟨h.os, h.tape, h.output, h.size, fun k hk _ => h.block k hk⟩
theorem ChgS.below {B : Nat} (h : ChgS S w w') (hB : ∀ i, S i → B ≤ i) (hw : B ≤ w.heap.size) : Below B w w' :=
  ⟨h.os, h.tape, h.output, h.size, fun k hk => h.block k (by omega) (fun hs => by have := hB k hs; omega)⟩
theorem ChgS.alloc (h : ChgS S a w) (o : Obj) : ChgS S a (w.alloc o) := h.new (T := fun _ => False) (.of_below ((Below.refl _ w).alloc (Nat.le_refl _) o)) (fun _ _ h => h.elim)
theorem ChgS.drewN (h : ChgS S a w) (n : Nat) : ChgS S a (w.drewN n) := ⟨h.os, h.tape, h.output, h.size, h.block⟩
theorem ChgS.setCell (h : ChgS S a w) {p : Addr} (hp : S p.block ∨ a.heap.size ≤ p.block) (u : Value) : ChgS S a (w.setCell p u) :=
  h.new (T := fun k => k = p.block) ⟨rfl, rfl, rfl, by simp [World.setCell], fun k _ hk => Below.heap_setCell w p u k hk⟩ (fun i hi e => by
    rcases hp with hp | hp
    · rw [e]; exact hp
    · omega)
theorem ChgS.grown (h : ChgS S a w) {row : Option Nat} (hg : w.grownBy w' row) (hr : ∀ k, row = some k → S k ∨ a.heap.size ≤ k) : ChgS S a w' :=
  h.new (T := fun k => row = some k) ⟨hg.os, hg.tape, hg.output, hg.size, fun k hk hs => hg.block k hk (fun e => hs e.symm)⟩ (fun i hi e => by
    rcases hr i e with h | h
    · exact h
    · omega)
theorem Blk.chgS {g : Nat} {t : TypeId} {cs : Array Value} (h : Blk w g t cs) (hc : ChgS S w w') (hg : ¬ S g) : Blk w' g t cs := (hc.block g h.lt hg).trans h
theorem own_chgS {base : Nat} {e : TypeId} {size n : Nat} {v : Value} {xs : List Value} (h : w.ownsRow base e size v n xs) (hc : ChgS S w w') (hs : ∀ k, v.ownBlock = some k → ¬ S k) : w'.ownsRow base e size v n xs := by
  rcases h.2 with ⟨rfl, rfl⟩ | ⟨g, cap, cur, rfl, h1, h2, h3⟩
  · exact ⟨h.1, .inl ⟨rfl, rfl⟩⟩
  · have hlt : g < w.heap.size := (Array.getElem?_eq_some_iff.1 h2).1
    exact ⟨h.1, .inr ⟨g, cap, cur, rfl, h1, (hc.block g hlt (hs g rfl)).trans h2, h3⟩⟩
end
/-- A row that lies in a block of S. -/
def RowS (w : World) (S : Nat → Prop) (k : Nat) (A : Option Addr) (n : Nat) (xs : List Value) : Prop := xs.length = n * k ∧ (0 < n → ∃ a, A = some a ∧ S a.block ∧ a.block < w.heap.size ∧ ∀ j u, xs[j]? = some u → w.cell? (a.add j) = some u)
section
variable {S T : Nat → Prop} {w w' : World} {k n : Nat} {A : Option Addr} {xs : List Value}
theorem RowS.mono (h : RowS w S k A n xs) (hs : ∀ b, S b → T b) : RowS w T k A n xs :=
  ⟨h.1, fun hn => by
    obtain ⟨a, e, h1, h2⟩ := h.2 hn
    exact ⟨a, e, hs _ h1, h2⟩⟩
theorem RowS.chg (h : RowS w S k A n xs) (hc : ChgS T w w') (ht : ∀ b, S b → ¬ T b) : RowS w' S k A n xs :=
  ⟨h.1, fun hn => by
    obtain ⟨a, e, h1, h2, h3⟩ := h.2 hn
    refine ⟨a, e, h1, Nat.lt_of_lt_of_le h2 hc.size, fun j u hu => ?_⟩
    rw [← h3 j u hu]
    exact World.cell?_of_block (by rw [block_of_add]; exact hc.block _ h2 (ht _ h1))⟩
theorem RowS.reads (h : RowS w S k A n xs) : Reads w w.heap.size k A n xs :=
  ⟨h.1, fun hn => by
    obtain ⟨a, e, h1, h2, h3⟩ := h.2 hn
    exact ⟨a, e, h2, h3⟩⟩
theorem RowS.of_own {base : Nat} {e : TypeId} {c : Nat} (h : w.ownsRow base e k (.slice A n c) n xs) (hs : ∀ b, (Value.slice A n c).ownBlock = some b → S b) : RowS w S k A n xs := by
  have hr := Reads.of_own h
  refine ⟨hr.1, fun hn => ?_⟩
  obtain ⟨a, rfl, h1, h2⟩ := hr.2 hn
  refine ⟨a, rfl, hs _ ?_, h1, h2⟩
  rcases h.2 with ⟨h4, h5⟩ | ⟨g, cap, cur, h4, _⟩
  · cases h4
  · injection h4 with h4 _ _
    injection h4 with h4
    subst h4; rfl
end
end Go.Proofs.YtgkpoopiamicnaaDoor
