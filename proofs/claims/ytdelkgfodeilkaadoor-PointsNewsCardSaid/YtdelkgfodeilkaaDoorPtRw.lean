/-
  The loops of a function's body. Conditions: none.
-/
import Derived.Test.YtdelkgfodeilkaaDoorProg
import Derived.WalkKit
import Derived.Test.YtdelkgfodeilkaaDoorPtRa
namespace Go.Proofs.YtdelkgfodeilkaaDoor

/-- The loops of a body, each ahead of those in it. -/
def loopsOf : Code → List Code
  | .loop c => c :: loopsOf c
  | .seq a b => loopsOf a ++ loopsOf b
  | .cond _ a b => loopsOf a ++ loopsOf b
  | .block _ c => loopsOf c
  | .scope c => loopsOf c
  | .rangeFunc _ _ a b => loopsOf a ++ loopsOf b
  | _ => []
def loopAt (f : Func) (k : Nat) : Code := ((f.body.map loopsOf).getD []).getD k .skip
end Go.Proofs.YtdelkgfodeilkaaDoor
namespace Go.Proofs.YtdelkgfodeilkaaDoor
open Go.RowKit Go.Lib

structure RefW (w : World) (base : Nat) (wr : World) (g : Nat) (vN vR vD : Value) (names : List ByteArray) (roads : List Rd) (n : Nat) (us : Nat → Nat) (D : Nat → Nat → Int) : Prop where
  blk : Blk wr g 92 #[.bool true, vN, vR, vD]
  nm : wr.ownsRow base 9 1 vN names.length (strs names)
  rd : wr.ownsRow base 43 3 vR roads.length (roads.flatMap roadV)
  sq : SqM base wr vD n n us D
  below : Below w.heap.size w wr
section
variable {w wr : World} {base g n : Nat} {vN vR vD : Value} {names : List ByteArray} {roads : List Rd} {us : Nat → Nat} {D D' : Nat → Nat → Int}
theorem RefW.congr (h : RefW w base wr g vN vR vD names roads n us D) (e : ∀ u v, u < n → v < n → D u v = D' u v) : RefW w base wr g vN vR vD names roads n us D' := ⟨h.blk, h.nm, h.rd, h.sq.congr e, h.below⟩
theorem RefW.later {w' : World} (h : RefW w base wr g vN vR vD names roads n us D) (hb : Below wr.heap.size wr w') : RefW w base w' g vN vR vD names roads n us D :=
  ⟨h.blk.below hb h.blk.lt, own_below h.nm hb, own_below h.rd hb, h.sq.later hb, h.below.trans (hb.mono h.below.size)⟩
theorem RefW.drewN (h : RefW w base wr g vN vR vD names roads n us D) (k : Nat) : RefW w base (wr.drewN k) g vN vR vD names roads n us D := h.later (below_drewN _ _ _)
theorem RefW.set_ (h : RefW w base wr g vN vR vD names roads n us D) (hb : w.heap.size ≤ base) {i j : Nat} (hi : i < n) (hj : j < n) (d : Int) : RefW w base (wr.setCell ⟨us i, j, none⟩ (.int .i64 d)) g vN vR vD names roads n us (setD D i j d) :=
  ⟨h.blk.far (p := ⟨us i, j, none⟩) (Blk.ne_ h.blk (h.sq.rows i hi) (by decide)) _,
   h.nm.kept (grown_setCell wr ⟨us i, j, none⟩ _) (.inr (own_blk_ne h.nm (h.sq.rows i hi) (by decide))),
   h.rd.kept (grown_setCell wr ⟨us i, j, none⟩ _) (.inr (own_blk_ne h.rd (h.sq.rows i hi) (by decide))),
   h.sq.set_ hi hj d, h.below.setCell (p := ⟨us i, j, none⟩) (Nat.le_trans hb (h.sq.hu i hi)) _⟩
end
end Go.Proofs.YtdelkgfodeilkaaDoor
namespace Go.Proofs.YtdelkgfodeilkaaDoor
open Go.RowKit Go.Lib

/-- While the square is begun: k rows. -/
structure RefK (w : World) (base : Nat) (wr : World) (g : Nat) (vN vR vD : Value) (names : List ByteArray) (roads : List Rd) (n k : Nat) (us : Nat → Nat) : Prop where
  blk : Blk wr g 92 #[.bool true, vN, vR, vD]
  nm : wr.ownsRow base 9 1 vN names.length (strs names)
  rd : wr.ownsRow base 43 3 vR roads.length (roads.flatMap roadV)
  sq : SqM base wr vD n k us zeroD
  below : Below w.heap.size w wr
  hg : w.heap.size ≤ g
  lt : ∀ i, i < k → us i < wr.heap.size
section
variable {w wr w' : World} {base g n k : Nat} {vN vR vD : Value} {names : List ByteArray} {roads : List Rd} {us : Nat → Nat}
theorem RefK.full (h : RefK w base wr g vN vR vD names roads n n us) : RefW w base wr g vN vR vD names roads n us zeroD := ⟨h.blk, h.nm, h.rd, h.sq, h.below⟩
theorem RefK.later (h : RefK w base wr g vN vR vD names roads n k us) (hb : Below wr.heap.size wr w') : RefK w base w' g vN vR vD names roads n k us :=
  ⟨h.blk.below hb h.blk.lt, own_below h.nm hb, own_below h.rd hb, h.sq.later hb, h.below.trans (hb.mono h.below.size), h.hg, fun i hi => Nat.lt_of_lt_of_le (h.lt i hi) hb.size⟩
theorem RefK.push (h : RefK w base wr g vN vR vD names roads n k us) (hbase : w.heap.size ≤ base) {q : Nat} (hq : Blk wr q 2 (rowA n (zeroD k)).toArray) (hqb : base ≤ q) (hne : ∀ i, i < k → us i ≠ q) {v' : Value} (hg : wr.grownBy w' vD.ownBlock)
    (ho : w'.ownsRow base 63 1 v' (k + 1) (((List.range k).map fun i => .slice (some ⟨us i, 0, none⟩) n n) ++ [.slice (some ⟨q, 0, none⟩) n n])) :
    RefK w base (w'.setCell ⟨g, 3, none⟩ v') g vN vR v' names roads n (k + 1) (fun i => if i = k then q else us i) := by
  have b3 := h.blk.grown hg (fun e => own_blk_ne h.sq.own h.blk (by decide) e.symm)
  have hs := (h.sq.push hq hqb hne hg ho).far (p := ⟨g, 3, none⟩) b3 (by decide) (by decide) v'
  have hbw : Below w.heap.size w w' := h.below.grown hg h.below.size (fun r hr => Nat.le_trans hbase (h.sq.own.lt r hr).1)
  refine ⟨b3.set_ 3 v', (h.nm.kept hg (own_own_ne h.nm h.sq.own (by decide))).kept (grown_setCell w' ⟨g, 3, none⟩ v') (.inr (own_blk_ne (h.nm.kept hg (own_own_ne h.nm h.sq.own (by decide))) b3 (by decide))),
    (h.rd.kept hg (own_own_ne h.rd h.sq.own (by decide))).kept (grown_setCell w' ⟨g, 3, none⟩ v') (.inr (own_blk_ne (h.rd.kept hg (own_own_ne h.rd h.sq.own (by decide))) b3 (by decide))),
    hs.congr (fun i x _ _ => ?_), hbw.setCell (p := ⟨g, 3, none⟩) h.hg v', h.hg, fun i hi => ?_⟩
  · show (if i = k then zeroD k else zeroD i) x = zeroD i x
    by_cases e : i = k
    · rw [if_pos e, e]
    · rw [if_neg e]
  · have h1 : w'.heap.size ≤ (w'.setCell ⟨g, 3, none⟩ v').heap.size := (grown_setCell w' ⟨g, 3, none⟩ v').size
    have h2 := hg.size
    show (if i = k then q else us i) < _
    by_cases e : i = k
    · rw [if_pos e]; have := hq.lt; omega
    · rw [if_neg e]; have := h.lt i (by omega); omega
end
/-- A row of the square while it is filled. -/
def rowF (i j : Nat) : Nat → Int := fun x => if x < j ∧ x ≠ i then -1 else 0
theorem rowF_zero (i n : Nat) : rowA n (fillF 0) = rowA n (rowF i 0) := by
  unfold rowA
  exact List.map_congr_left fun x _ => by unfold fillF rowF; rw [if_neg (Nat.not_lt_zero x), if_neg (fun h => Nat.not_lt_zero x h.1)]
theorem rowF_set {i j : Nat} (h : j ≠ i) : setF (rowF i j) j (-1) = rowF i (j + 1) := by
  funext x
  unfold setF rowF
  by_cases e : x = j
  · rw [if_pos e, if_pos ⟨by omega, by omega⟩]
  · rw [if_neg e]
    by_cases h2 : x < j ∧ x ≠ i
    · rw [if_pos h2, if_pos ⟨by omega, h2.2⟩]
    · rw [if_neg h2, if_neg (by omega)]
theorem rowF_skip {i j : Nat} (h : j = i) : rowF i j = rowF i (j + 1) := by
  funext x
  unfold rowF
  by_cases h2 : x < j ∧ x ≠ i
  · rw [if_pos h2, if_pos ⟨by omega, h2.2⟩]
  · rw [if_neg h2, if_neg (by omega)]
theorem rowF_end (i n : Nat) : rowA n (rowF i n) = rowA n (zeroD i) := by
  unfold rowA
  refine List.map_congr_left fun x hx => ?_
  have hx' := List.mem_range.1 hx
  unfold rowF zeroD
  by_cases e : i = x
  · rw [if_pos e, if_neg (fun h => h.2 e.symm)]
  · rw [if_neg e, if_pos ⟨hx', fun h => e h.symm⟩]
end Go.Proofs.YtdelkgfodeilkaaDoor
