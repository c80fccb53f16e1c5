/-
 Marks of loops over functions that are done, on a frame's list of deferred calls. Conditions: none. Of no program.
-/
import Derived.Test.YtmepaeahchiglaaGreatDoorZdae
import Derived.Sort.LoopGhostIn
namespace Go.Proofs.YtmepaeahchiglaaGreatDoor
open Go.RowKit Go.Shelf Go.Lib
theorem L8 {W : World} {g l : Nat} {t : TypeId} {cs : Array Value} {o o' : Obj} (h : Blk W g t cs) (hl : W.heap[l]? = some o) (ho : o.isCells = false) : Blk (W.putObj l o') g t cs :=
 (World.putObj_heap_other (fun e => by subst e; unfold Blk at h; rw [h] at hl; injection hl with hl; subst hl; simp [Obj.isCells] at ho)).trans h
def Marks (B : Nat) : List Deferred → World → Prop
 | [], _ => True
 | d :: ds, W => (∃ D, d.target = .collected D ∧ B ≤ D ∧ W.heap[D]? = some (.deferred (some [])) ∧ ∀ d' ∈ ds, d'.target ≠ .collected D) ∧ Marks B ds W
theorem Marks.keep {B : Nat} : ∀ {ds : List Deferred} {W W' : World}, Marks B ds W → (∀ d ∈ ds, ∀ D, d.target = .collected D → W.heap[D]? = some (.deferred (some [])) → W'.heap[D]? = some (.deferred (some []))) → Marks B ds W'
 | [], _, _, _, _ => trivial
 | d :: ds, _, _, ⟨⟨D, h1, h2, h3, h4⟩, h5⟩, hk => ⟨⟨D, h1, h2, hk d (by simp) D h1 h3, h4⟩, h5.keep fun d' hd' D' h6 h7 => hk d' (by simp [hd']) D' h6 h7⟩
theorem Marks.later {B : Nat} {ds : List Deferred} {W W' : World} (h : Marks B ds W) (hb : Below W.heap.size W W') : Marks B ds W' :=
 h.keep fun _ _ _ _ h7 => (hb.block _ (Array.getElem?_eq_some_iff.1 h7).1).trans h7
theorem Marks.others {B : Nat} {ds : List Deferred} {W W' : World} (h : Marks B ds W) (hk : KeepsOthers W W') : Marks B ds W' := h.keep fun _ _ D _ h7 => hk.same D _ h7 rfl
theorem Marks.lt {B : Nat} : ∀ {ds : List Deferred} {W : World}, Marks B ds W → ∀ d ∈ ds, ∀ D, d.target = .collected D → D < W.heap.size
 | [], _, _, d, hd, _, _ => by cases hd
 | d0 :: ds, W, ⟨⟨D0, h1, h2, h3, h4⟩, h5⟩, d, hd, D, hD => by
   rcases List.mem_cons.1 hd with rfl | hd
   ·rw [h1] at hD; injection hD with hD; subst hD; exact (Array.getElem?_eq_some_iff.1 h3).1
   ·exact Marks.lt h5 d hd D hD
theorem pU {F : Fence} {n : Nat} {P : Program} {fn : Func} {tmps : Array Value} {R : Ending → World → Prop} {B : Nat} (Pq : World → Prop)
 (hP : ∀ W D, Pq W → B ≤ D → W.heap[D]? = some (.deferred (some [])) → Pq (W.putObj D (.deferred none))) (iQ : ∀ W, Pq W → LeavesIn F n P fn tmps R [] .returning W) :
 ∀ (ds : List Deferred) (W : World), Marks B ds W → Pq W → LeavesInM F n P fn tmps R ds .returning W
 | [], W, _, h => iQ W h
 | d :: ds, W, ⟨⟨D, h1, h2, h3, h4⟩, h5⟩, h => ⟨by simp, .inl ⟨D, _, h1, run_takeDeferred h3, pU Pq hP iQ ds _ (h5.keep fun d' hd' D' h6 h7 => by
    have hne : D ≠ D' := fun e => h4 d' hd' (e ▸ h6)
    exact (World.putObj_heap_other hne.symm).trans h7) (hP W D h h2 h3)⟩⟩
theorem Gz {mine : Nat → Prop} {B b0 : Nat} {e : TypeId} {size n : Nat} {v : Value} {xs : List Value} {W W' : World} {row : Option Nat} (h : W.ownsRow b0 e size v n xs) (hg : W.grownBy W' row) (hr : ∀ r, row = some r → mine r ∨ (B ≤ r ∧ ∃ o : Obj, W.heap[r]? = some o ∧ o.isCells = false)) (hm : ∀ r, mine r → r < b0) : W'.ownsRow b0 e size v n xs := by
 refine h.kept hg ?_
 rcases h.2 with ⟨rfl, _⟩ | ⟨g, cap, cur, rfl, hb, hh, _⟩
 ·exact .inl rfl
 ·refine .inr (fun e => ?_)
  simp only [Value.ownBlock] at e
  rcases hr g e.symm with h1 | ⟨_, o, ho, hc⟩
  ·have := hm g h1; omega
  ·rw [hh] at ho; injection ho with ho; subst ho; simp [Obj.isCells] at hc
theorem uT {w : World} {b : Nat} {e : TypeId} {size n : Nat} {v : Value} {xs : List Value} (h : w.ownsRow b e size v n xs) : ∀ (j : Nat) (o : Obj), v.ownBlock = some j → w.heap[j]? = some o → o.isCells = true := by
 intro j o hj ho
 rcases h.2 with ⟨rfl, _⟩ | ⟨g, cap, cur, rfl, hb, hh, _⟩
 ·cases hj
 ·simp only [Value.ownBlock, Option.some.injEq] at hj; subst hj
  rw [hh] at ho; injection ho with ho; subst ho; rfl
end Go.Proofs.YtmepaeahchiglaaGreatDoor
namespace Go.Proofs.YtmepaeahchiglaaGreatDoor
open Go.RowKit
section
variable {P : Program}
theorem Dj {α : Type} {g : Operand} {ps : Array Tmp} {assign body : Code} {Q : Exit → Act → World → Prop} {a : Act} {w : World}
 {gf : Nat} {lb : Array Value} (hg : a.eval g = .func (.func gf) #[] lb) (eg : ∀ args w, (callFunc gf args).run P w = .ok (.enter gf args) w)
 {encs : α → Array Value} {mine : Nat → Prop} {Kp : World → World → Prop} {S Sp : List α → Prop} {N : Nat} {w0 : World} (hit : KM P gf lb encs mine Kp S Sp N w0)
 (NF : ∀ r, mine r → r < w.heap.size)
 (hKt : ∀ {A B C : World}, Kp A B → Kp B C → Kp A C) (hKb : ∀ (W : World) (l : Nat) (o o' : Obj), w.heap.size ≤ l → W.heap[l]? = some o → o.isCells = false → Kp W (W.putObj l o')) (hb0 : Below w0.heap.size w0 w) (hps : ∀ x, (encs x).size = ps.size)
 (I : List α → World → Prop) (Ix : Code → List α → World → Prop) (hI : nQ mine w.heap.size I) (hIx : ∀ c, nQ mine w.heap.size (Ix c)) (h0 : I [] w) (a₁ : α → Nat → Act) (o : α → Obj) (hKa : ∀ (W : World) (o' : Obj), w.heap.size ≤ W.heap.size → Kp W (W.alloc o'))
 (hassign : ∀ (l : Nat) (x : α) (W : World) (K : Act → World → Prop), K (a₁ x W.heap.size) (W.alloc (o x)) →
   assign.wpIn (Fence.wide.inRound l) 2 P (Exit.then K (fun _ _ _ => False)) { tmps := (ps.zip (encs x)).foldl (fun t (p, v) => t.setIfInBounds p v) a.tmps, defers := [] } W)
 (hbody : ∀ (l : Nat) (pre : List α) (x : α) (W : World) (g : Nat), w.heap.size ≤ g → W.heap[g]? = some (o x) → W.heap.size = g + 1 → I pre W → pre.length < N → body.wpIn (Fence.wide.inRound l) 2 P (ownPostK Kp I Ix (pre ++ [x]) W) (a₁ x g) W)
 (hdone : ∀ (D : Nat) (xs : List α) (W : World), w.heap.size ≤ D → S xs → I xs W → W.heap[D]? = some (.deferred (some [])) → Q .normal { a with defers := { target := .collected D, args := #[] } :: a.defers } W)
 (hstop : ∀ (D : Nat) (c : Code) (pre : List α) (W : World), w.heap.size ≤ D → Sp pre → Ix c pre W → W.heap[D]? = some (.deferred (some [])) → c.wpIn Fence.wide 4 P Q { a with defers := { target := .collected D, args := #[] } :: a.defers } W) :
 (Code.rangeFunc g ps assign body).wpIn Fence.wide 4 P Q a w := by
 refine wpIn_rangeFunc fun fn _ => ?_
 obtain ⟨W1, hW1⟩ : ∃ W1, (w.alloc (.deferred (some []))).alloc (.loop { state := .ready, pending := none, fn, tmps := a.tmps, params := ps, assign, body, defers := w.heap.size }) = W1 := ⟨_, rfl⟩
 have Z4 : iL w fn a.tmps ps assign body W1 .ready none := by
  rw [← hW1]
  refine ⟨?_, (Below.heap_alloc _ _ _ (by simp)).trans (World.alloc_heap_new w _)⟩
  have := World.alloc_heap_new (w.alloc (.deferred (some []))) (.loop { state := .ready, pending := none, fn, tmps := a.tmps, params := ps, assign, body, defers := w.heap.size })
  rwa [World.size_alloc] at this
 have hb1 : Below w0.heap.size w0 W1 := by
  rw [← hW1]; exact (hb0.alloc hb0.size _).alloc (by have := hb0.size; simp; omega) _
 have hI1 : I [] W1 := by rw [← hW1]; exact hI.new _ (hI.new _ h0)
 refine ⟨w.heap.size + 1, [{ target := .collected w.heap.size, args := #[] }], W1, { target := .fn (.func gf) lb, args := #[.func (.yield (w.heap.size + 1)) #[] #[]] }, W1, gf,
  #[.func (.yield (w.heap.size + 1)) #[] #[]] ++ lb, W1, by rw [← hW1]; exact run_enterLoop_outer _ _ _ _ _, ?_, fun _ _ => trivial, ?_, fun _ => by omega, ?_⟩
 ·simp only [resolve, hg]; simp [go_sem]
 ·simp [invoke, go_sem, eg]
 refine (hit (w.heap.size + 1) (fun pre W => I pre W ∧ iL w fn a.tmps ps assign body W .ready none) (fun pre W => ∃ c, Ix c pre W ∧ iL w fn a.tmps ps assign body W .done (some c)) W1 hb1 ?_ ?_ ?_ ⟨hI1, Z4⟩).mono ?_
 ·exact fun s A B row hs hgr hr => ⟨hI s A B row hs.1 hgr (fun r e => .inl (hr r e)), hs.2.keep hgr (fun r e => NF r (hr r e))⟩
 ·rintro s A B row ⟨c, hc, hl⟩ hgr hr
  exact ⟨c, hIx c s A B row hc hgr (fun r e => .inl (hr r e)), hl.keep hgr (fun r e => NF r (hr r e))⟩
 ·rintro pre x W ⟨hi, hl⟩ hlen
  refine ⟨fn, _, assign, body, run_yield hl.1 (hps x), ?_⟩
  refine roundIn_of_wpIn (show Fence.wide.fn fn from trivial) ?_
  have hszW : w.heap.size ≤ W.heap.size := Nat.le_of_lt (Array.getElem?_eq_some_iff.1 hl.2).1
  refine hassign _ x W _ ?_
  have hl' := hl.keep (World.grownBy_alloc W (o x) none) (fun r e => by cases e)
  have hi' := hI.new (o x) hi
  have hKo := hKa W (o x) hszW
  have hgo : (W.alloc (o x)).heap[W.heap.size]? = some (o x) := World.alloc_heap_new W _
  have hgs : (W.alloc (o x)).heap.size = W.heap.size + 1 := World.size_alloc _ _
  have hlt2 : w.heap.size + 1 < W.heap.size := (Array.getElem?_eq_some_iff.1 hl.1).1
  generalize W.heap.size = g at *
  generalize W.alloc (o x) = Wa at *
  refine ⟨_, run_beginRound hl'.1 rfl, ?_⟩
  have hl2 := hl'.set_ .busy none
  have hK2 : Kp Wa (Wa.putObj (w.heap.size + 1) (.loop { state := .busy, pending := none, fn, tmps := a.tmps, params := ps, assign, body, defers := w.heap.size })) := hKb _ _ _ _ (by omega) hl'.1 rfl
  replace hK2 := hKt hKo hK2
  refine wpIn_mono (hbody _ pre x _ g hszW ((World.putObj_heap_other (by omega)).trans hgo) (by simp [World.putObj]; exact hgs) (hI.put _ hi' (by omega) hl'.1 rfl) hlen) ?_
  have kept : ∀ W3 : World, KeepsOthers (Wa.putObj (w.heap.size + 1) (.loop { state := .busy, pending := none, fn, tmps := a.tmps, params := ps, assign, body, defers := w.heap.size })) W3 → iL w fn a.tmps ps assign body W3 .busy none :=
   fun W3 hk => ⟨hk.same _ _ hl2.1 rfl, hk.same _ _ hl2.2 rfl⟩
  rintro e a3 W3 hp
  cases e with
  | normal =>
    obtain ⟨hk, dP, hi3⟩ := hp
    have h3 := kept W3 hk
    exact ⟨_, _, run_endRound none h3.1, .inl ⟨rfl, ⟨hI.put _ hi3 (by omega) h3.1 rfl, h3.set_ _ _⟩, hKt (hKt hK2 dP) (hKb _ _ _ _ (by omega) h3.1 rfl)⟩⟩
  | ret =>
    obtain ⟨hk, hi3⟩ := hp
    have h3 := kept W3 hk
    exact ⟨_, _, run_endRound (some .ret) h3.1, .inr ⟨rfl, .ret, (hIx _).put _ hi3 (by omega) h3.1 rfl, h3.set_ _ _⟩⟩
  | exit id =>
    obtain ⟨hk, hi3⟩ := hp
    have h3 := kept W3 hk
    exact ⟨_, _, run_endRound (some (.exit id)) h3.1, .inr ⟨rfl, .exit id, (hIx _).put _ hi3 (by omega) h3.1 rfl, h3.set_ _ _⟩⟩
  | goto t =>
    obtain ⟨hk, hi3⟩ := hp
    have h3 := kept W3 hk
    exact ⟨_, _, run_endRound (some (.goto t)) h3.1, .inr ⟨rfl, .goto t, (hIx _).put _ hi3 (by omega) h3.1 rfl, h3.set_ _ _⟩⟩
  | panic ch => exact hp.elim
  | outgrown => exact hp.elim
 ·rintro e W2 ⟨⟨v, rfl⟩, (⟨xs, hS, hi, hl⟩ | ⟨pre, hSp, c, hi, hl⟩)⟩
  ·exact ⟨none, _, run_endLoop hl.1 (by simp), hdone _ xs _ (Nat.le_refl _) hS (hI.put _ hi (by omega) hl.1 rfl) (hl.set_ .exhausted none).2⟩
  ·exact ⟨some c, _, run_endLoop hl.1 (by simp), hstop _ c pre _ (Nat.le_refl _) hSp ((hIx c).put _ hi (by omega) hl.1 rfl) (hl.set_ .exhausted (some c)).2⟩
end
end Go.Proofs.YtmepaeahchiglaaGreatDoor
