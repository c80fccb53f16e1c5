/-
  layer 36: the memory of New while it runs. Conditions: none.
-/
import Derived.Test.YtdelkgfodeilkaaDoorPtY
namespace Go.Proofs.YtdelkgfodeilkaaDoor
open Go.RowKit Go.Lib

def setU {α : Type} (us : Nat → α) (k : Nat) (v : α) : Nat → α := fun j => if j = k then v else us j
theorem setU_same {α : Type} (us : Nat → α) (k : Nat) (v : α) : setU us k v k = v := by unfold setU; rw [if_pos rfl]
theorem setU_other {α : Type} {us : Nat → α} {k j : Nat} {v : α} (h : j ≠ k) : setU us k v j = us j := by unfold setU; rw [if_neg h]
def usA (N : Nat) (us : Nat → Value) : Array Value := ((List.range N).map us).toArray
theorem usA_get {N : Nat} (us : Nat → Value) {k : Nat} (h : k < N) : (usA N us)[k]? = some (us k) := by simp [usA, h]
theorem usA_set {N : Nat} (us : Nat → Value) {k : Nat} (hk : k < N) (v : Value) : (usA N us).setIfInBounds k v = usA N (setU us k v) := by
  unfold usA
  rw [List.setIfInBounds_toArray]
  congr 1
  apply List.ext_getElem?
  intro i
  rw [List.getElem?_set]
  by_cases e : k = i
  · subst e; simp [setU, hk]
  · rw [if_neg e]
    simp only [List.getElem?_map]
    by_cases hi : i < N
    · rw [List.getElem?_range hi]; simp [setU, Ne.symm e]
    · simp [hi]
/-- The rows of ends. -/
structure NearU (w : World) (base qE N : Nat) (us : Nat → Value) (near : Nat → List (Nat × Int)) : Prop where
  row : Blk w qE 74 (usA N us)
  rows : ∀ k, k < N → w.ownsRow base 76 2 (us k) (near k).length ((near k).flatMap endV)
  apart : ∀ j k, j < N → k < N → j ≠ k → (us j).ownBlock = none ∨ (us j).ownBlock ≠ (us k).ownBlock
  hq : base ≤ qE
section
variable {w w' : World} {base qE N : Nat} {us : Nat → Value} {near : Nat → List (Nat × Int)}
theorem NearU.later (h : NearU w base qE N us near) (hb : Below w.heap.size w w') : NearU w' base qE N us near := ⟨h.row.below hb h.row.lt, fun k hk => own_below (h.rows k hk) hb, h.apart, h.hq⟩
/-- Another block turns. -/
theorem NearU.kept (h : NearU w base qE N us near) {row : Option Nat} (hg : w.grownBy w' row) (h1 : some qE ≠ row) (h2 : ∀ k, k < N → (us k).ownBlock = none ∨ (us k).ownBlock ≠ row) : NearU w' base qE N us near :=
  ⟨h.row.grown hg h1, fun k hk => (h.rows k hk).kept hg (h2 k hk), h.apart, h.hq⟩
theorem NearU.other {g : Nat} {t : TypeId} {cs : Array Value} (h : NearU w base qE N us near) (hg : w.grownBy w' (some g)) (hb : Blk w g t cs) (h1 : 74 ≠ t) (h2 : 76 ≠ t) : NearU w' base qE N us near :=
  h.kept hg (fun e => Blk.ne_ h.row hb h1 (by injection e)) (fun k hk => .inr (own_blk_ne (h.rows k hk) hb h2))
theorem NearU.low {row : Option Nat} (h : NearU w base qE N us near) (hg : w.grownBy w' row) (hr : ∀ r, row = some r → r < base) : NearU w' base qE N us near :=
  h.kept hg (fun e => by have := hr _ e.symm; have := h.hq; omega) (fun k hk => by
    cases hb : (us k).ownBlock with
    | none => exact .inl rfl
    | some g => exact .inr (fun e => by have := hr g e.symm; have := ((h.rows k hk).lt g hb).1; omega))
/-- One row turns in its own block, or moves to a new one. -/
theorem NearU.turn (h : NearU w base qE N us near) {k : Nat} (hk : k < N) {v' : Value} {l' : List (Nat × Int)} (hg : w.grownBy w' (us k).ownBlock) (ho : w'.ownsRow base 76 2 v' l'.length (l'.flatMap endV)) (hv : v'.ownBlock = (us k).ownBlock ∨ ∃ g, v'.ownBlock = some g ∧ w.heap.size ≤ g) :
    NearU (w'.setCell ⟨qE, k, none⟩ v') base qE N (setU us k v') (setU near k l') := by
  have hne : (us k).ownBlock ≠ some qE := own_blk_ne (h.rows k hk) h.row (by decide)
  have hrow : Blk w' qE 74 (usA N us) := h.row.grown hg (fun e => hne e.symm)
  refine ⟨by rw [← usA_set us hk]; exact hrow.set_ k v', fun j hj => ?_, fun i j hi hj hij => ?_, h.hq⟩
  · by_cases e : j = k
    · subst e
      rw [setU_same, setU_same]
      exact ownsRow_setCell_other ho (own_blk_ne ho hrow (by decide)) _
    · rw [setU_other e, setU_other e]
      have := (h.rows j hj).kept hg (h.apart j k hj hk e)
      exact ownsRow_setCell_other this (own_blk_ne this hrow (by decide)) _
  · have far : ∀ j, j < N → j ≠ k → (us j).ownBlock = none ∨ (us j).ownBlock ≠ v'.ownBlock := by
      intro j hj e
      rcases hv with hv | ⟨g, hv, hgs⟩
      · rw [hv]; exact h.apart j k hj hk e
      · cases hb : (us j).ownBlock with
        | none => exact .inl rfl
        | some b =>
          refine .inr ?_
          rw [hv]
          intro e2
          injection e2 with e2
          have := ((h.rows j hj).lt b hb).2
          omega
    by_cases ei : i = k
    · subst ei
      rw [setU_same, setU_other (Ne.symm hij)]
      rcases far j hj (Ne.symm hij) with h1 | h1
      · cases hv' : v'.ownBlock with
        | none => exact .inl rfl
        | some b => exact .inr (by rw [h1]; simp)
      · exact .inr (Ne.symm h1)
    · rw [setU_other ei]
      by_cases ej : j = k
      · subst ej
        rw [setU_same]; exact far i hi ei
      · rw [setU_other ej]; exact h.apart i j hi hj hij
/-- A row that turns in its own block alone: the value stays. -/
theorem NearU.sort_ (h : NearU w base qE N us near) {k : Nat} (hk : k < N) {l' : List (Nat × Int)} (hg : w.grownBy w' (us k).ownBlock) (ho : w'.ownsRow base 76 2 (us k) l'.length (l'.flatMap endV)) : NearU w' base qE N us (setU near k l') := by
  have hne : (us k).ownBlock ≠ some qE := own_blk_ne (h.rows k hk) h.row (by decide)
  refine ⟨h.row.grown hg (fun e => hne e.symm), fun j hj => ?_, h.apart, h.hq⟩
  by_cases e : j = k
  · subst e; rw [setU_same]; exact ho
  · rw [setU_other e]; exact (h.rows j hj).kept hg (h.apart j k hj hk e)
theorem NearU.nearM (h : NearU w base qE N us near) (l : List (List (Nat × Int))) (hl : l.length = N) (he : ∀ k (hk : k < l.length), near k = l[k]) (hN : N ≤ maxLen) : NearM w base (.slice (some ⟨qE, 0, none⟩) N N) l := by
  refine ⟨(List.range N).map us, ⟨by simp [hl], .inr ⟨qE, N, usA N us, by rw [hl], h.hq, h.row, by omega, hN, by simp [usA], by simp only [usA, hl, Nat.mul_one]; exact List.take_of_length_le (by simp)⟩⟩, by simp [hl], fun k hk => ?_⟩
  refine ⟨us k, by rw [List.getElem?_map, List.getElem?_range (by omega)]; rfl, ?_⟩
  have := h.rows k (by omega)
  rwa [he k hk] at this
theorem NearU.cell (h : NearU w base qE N us near) {k : Nat} (hk : k < N) : w.cell? ⟨qE, k, none⟩ = some (us k) := (Blk.cell h.row k).trans (usA_get us hk)
end
theorem madeCells_nil (n : Nat) : madeCells #[.slice none 0 0] n = usA n (fun _ => .slice none 0 0) := by
  apply Array.ext
  · simp [madeCells, usA]
  · intro i h1 h2
    simp [madeCells, usA, Nat.mod_one]
/-- All of New's memory. -/
structure NewM (w wr : World) (g mb qE N : Nat) (vN vR : Value) (names : List ByteArray) (roads : List Rd) (cnt : Nat) (f : ByteArray → Option Int) (us : Nat → Value) (near : Nat → List (Nat × Int)) : Prop where
  blk : Blk wr g 67 #[vN, .map (some mb), vR, .slice (some ⟨qE, 0, none⟩) N N]
  nm : wr.ownsRow w.heap.size 9 1 vN names.length (strs names)
  mp : MapSI wr mb cnt f
  rd : wr.ownsRow w.heap.size 43 3 vR roads.length (roads.flatMap roadV)
  nr : NearU wr w.heap.size qE N us near
  below : Below w.heap.size w wr
  hg : w.heap.size ≤ g
  hm : w.heap.size ≤ mb
section
variable {w wr w' : World} {g mb qE N cnt : Nat} {vN vR : Value} {names : List ByteArray} {roads : List Rd} {f : ByteArray → Option Int} {us : Nat → Value} {near : Nat → List (Nat × Int)}
theorem NewM.later (h : NewM w wr g mb qE N vN vR names roads cnt f us near) (hb : Below wr.heap.size wr w') : NewM w w' g mb qE N vN vR names roads cnt f us near :=
  ⟨h.blk.below hb h.blk.lt, own_below h.nm hb, h.mp.below hb, own_below h.rd hb, h.nr.later hb, h.below.trans (hb.mono h.below.size), h.hg, h.hm⟩
theorem NewM.alloc (h : NewM w wr g mb qE N vN vR names roads cnt f us near) (o : Obj) : NewM w (wr.alloc o) g mb qE N vN vR names roads cnt f us near := h.later ((Below.refl _ _).alloc (Nat.le_refl _) o)
theorem NewM.drew (h : NewM w wr g mb qE N vN vR names roads cnt f us near) : NewM w wr.drew g mb qE N vN vR names roads cnt f us near := h.later ((Below.refl _ _).drew)
theorem map_ne_cells {b g : Nat} {t : TypeId} {cs : Array Value} {fz : Nat × Nat} (hm : MapSI w b cnt f) (hb : w.heap[g]? = some (.cells cs t fz)) : g ≠ b := by
  obtain ⟨es, clock, h1⟩ := hm.isMap
  rintro rfl
  rw [hb] at h1; cases h1
theorem own_ne_map {base b n size : Nat} {e : TypeId} {v : Value} {xs : List Value} (h : w.ownsRow base e size v n xs) (hm : MapSI w b cnt f) : v.ownBlock = none ∨ v.ownBlock ≠ some b := by
  rcases h.2 with ⟨rfl, _⟩ | ⟨q, cap, cur, rfl, _, hq, _⟩
  · exact .inl rfl
  · refine .inr (fun e => ?_)
    injection e with e
    exact map_ne_cells hm hq e
theorem NewM.name (h : NewM w wr g mb qE N vN vR names roads cnt f us near) {f' : ByteArray → Option Int} (hm : MapSI w' mb (cnt + 1) f') (hg : wr.grownBy w' (some mb)) : NewM w w' g mb qE N vN vR names roads (cnt + 1) f' us near :=
  ⟨h.blk.grown hg (fun e => map_ne_cells h.mp h.blk (by injection e)), h.nm.kept hg (own_ne_map h.nm h.mp), hm, h.rd.kept hg (own_ne_map h.rd h.mp),
    h.nr.kept hg (fun e => map_ne_cells h.mp h.nr.row (by injection e)) (fun k hk => own_ne_map (h.nr.rows k hk) h.mp), h.below.grown hg h.below.size (fun r e => by cases e; exact h.hm), h.hg, h.hm⟩
theorem NewM.push (h : NewM w wr g mb qE N vN vR names roads cnt f us near) {k : Nat} (hk : k < N) {v' : Value} {l' : List (Nat × Int)} (hg : wr.grownBy w' (us k).ownBlock) (ho : w'.ownsRow w.heap.size 76 2 v' l'.length (l'.flatMap endV)) (hv : v'.ownBlock = (us k).ownBlock ∨ ∃ g, v'.ownBlock = some g ∧ wr.heap.size ≤ g) :
    NewM w (w'.setCell ⟨qE, k, none⟩ v') g mb qE N vN vR names roads cnt f (setU us k v') (setU near k l') := by
  have hu := h.nr.rows k hk
  have hlow : ∀ r, (us k).ownBlock = some r → w.heap.size ≤ r := fun r e => (hu.lt r e).1
  have k1 : Blk w' g 67 #[vN, .map (some mb), vR, .slice (some ⟨qE, 0, none⟩) N N] := h.blk.grown hg (fun e => own_blk_ne hu h.blk (by decide) e.symm)
  have k2 := h.nm.kept hg (own_own_ne h.nm hu (by decide))
  have k3 := h.mp.kept hg (fun e => by
    rcases own_ne_map hu h.mp with h1 | h1
    · rw [h1] at e; cases e
    · exact h1 e.symm)
  have k4 := h.rd.kept hg (own_own_ne h.rd hu (by decide))
  have krow : Blk w' qE 74 (usA N us) := h.nr.row.grown hg (fun e => own_blk_ne hu h.nr.row (by decide) e.symm)
  refine ⟨k1.far (p := ⟨qE, k, none⟩) (Blk.ne_ k1 krow (by decide)) _, ownsRow_setCell_other k2 (own_blk_ne k2 krow (by decide)) _, k3.kept (grown_setCell _ _ _) (fun e => map_ne_cells k3 krow (by injection e with e; exact e.symm)), ownsRow_setCell_other k4 (own_blk_ne k4 krow (by decide)) _,
    h.nr.turn hk hg ho hv, (h.below.grown hg h.below.size hlow).setCell (p := ⟨qE, k, none⟩) h.nr.hq _, h.hg, h.hm⟩
theorem NewM.sort_ (h : NewM w wr g mb qE N vN vR names roads cnt f us near) {k : Nat} (hk : k < N) {l' : List (Nat × Int)} (hg : wr.grownBy w' (us k).ownBlock) (ho : w'.ownsRow w.heap.size 76 2 (us k) l'.length (l'.flatMap endV)) :
    NewM w w' g mb qE N vN vR names roads cnt f us (setU near k l') := by
  have hu := h.nr.rows k hk
  exact ⟨h.blk.grown hg (fun e => own_blk_ne hu h.blk (by decide) e.symm), h.nm.kept hg (own_own_ne h.nm hu (by decide)), h.mp.kept hg (fun e => by
    rcases own_ne_map hu h.mp with h1 | h1
    · rw [h1] at e; cases e
    · exact h1 e.symm), h.rd.kept hg (own_own_ne h.rd hu (by decide)), h.nr.sort_ hk hg ho, h.below.grown hg h.below.size (fun r e => (hu.lt r e).1), h.hg, h.hm⟩
theorem NewM.done (h : NewM w wr g mb qE N vN vR names roads cnt f us near) (hc : cnt = names.length) (hf : f = nameF names) (l : List (List (Nat × Int))) (hl : l.length = N) (he : ∀ k (hk : k < l.length), near k = l[k]) (hN : N ≤ maxLen) : MapAt wr g ⟨names, roads, l⟩ :=
  ⟨w.heap.size, vN, vR, _, _, h.blk, h.nm, .inl ⟨mb, rfl, by subst hc; subst hf; exact h.mp⟩, h.rd, h.nr.nearM l hl he hN⟩
end
/-! Facts that last while memory is made, for whatever order it is made in. -/
theorem below_al {a X : World} (h : Below a.heap.size a X) (o : Obj) : Below a.heap.size a (X.alloc o) := h.alloc h.size o
theorem below_lt {a X Y : World} (hb : Below X.heap.size X Y) (h : Below a.heap.size a X) : Below a.heap.size a Y := h.trans (hb.mono h.size)
theorem mapsi_al {X : World} {b n : Nat} {f : ByteArray → Option Int} (h : MapSI X b n f) (o : Obj) : MapSI (X.alloc o) b n f := h.below ((Below.refl _ _).alloc (Nat.le_refl _) o)
theorem mapsi_drew {X : World} {b n : Nat} {f : ByteArray → Option Int} (h : MapSI X b n f) : MapSI X.drew b n f := h.below (Below.refl _ _).drew
theorem mapsi_lt {X Y : World} {b n : Nat} {f : ByteArray → Option Int} (hb : Below X.heap.size X Y) (h : MapSI X b n f) : MapSI Y b n f := h.below hb
theorem mapsi_made {W : World} {b : Nat} (e : W.heap.size = b) : MapSI (W.alloc (.map #[] 0)) b 0 (fun _ => none) := by subst e; exact MapSI.made W
theorem own_al {X : World} {B n s : Nat} {e : TypeId} {v : Value} {xs : List Value} (h : X.ownsRow B e s v n xs) (o : Obj) : (X.alloc o).ownsRow B e s v n xs := own_below h ((Below.refl _ _).alloc (Nat.le_refl _) o)
theorem own_dr {X : World} {B n s : Nat} {e : TypeId} {v : Value} {xs : List Value} (h : X.ownsRow B e s v n xs) : X.drew.ownsRow B e s v n xs := own_below h (Below.refl _ _).drew
theorem own_lt {X Y : World} {B n s : Nat} {e : TypeId} {v : Value} {xs : List Value} (hb : Below X.heap.size X Y) (h : X.ownsRow B e s v n xs) : Y.ownsRow B e s v n xs := own_below h hb
theorem blk_lt {X Y : World} {g : Nat} {t : TypeId} {cs : Array Value} (hb : Below X.heap.size X Y) (h : Blk X g t cs) : Blk Y g t cs := h.below hb h.lt
theorem blk_new' {W : World} {g : Nat} {t : TypeId} {cs : Array Value} (e : W.heap.size = g) : Blk (W.alloc (.cells cs t)) g t cs := by subst e; exact Blk.new W t cs
theorem blk_made {W : World} {g n : Nat} (e : W.heap.size = g) : Blk (W.alloc (.cells (madeCells #[.slice none 0 0] n) 74)) g 74 (usA n (fun _ => .slice none 0 0)) := by subst e; rw [madeCells_nil]; exact Blk.new W _ _
theorem size_drew_ (W : World) : W.drew.heap.size = W.heap.size := rfl
theorem NewM.start {w X : World} {g mb qE N : Nat} {vN vR : Value} {names : List ByteArray} {roads : List Rd} (h1 : Blk X g 67 #[vN, .map (some mb), vR, .slice (some ⟨qE, 0, none⟩) N N]) (h2 : X.ownsRow w.heap.size 9 1 vN names.length (strs names)) (h3 : MapSI X mb 0 (fun _ => none))
    (h4 : X.ownsRow w.heap.size 43 3 vR roads.length (roads.flatMap roadV)) (h5 : Blk X qE 74 (usA N (fun _ => .slice none 0 0))) (h6 : Below w.heap.size w X) (h7 : w.heap.size ≤ g ∧ w.heap.size ≤ mb ∧ w.heap.size ≤ qE) :
    NewM w X g mb qE N vN vR names roads 0 (fun _ => none) (fun _ => .slice none 0 0) (fun _ => []) :=
  ⟨h1, h2, h3, h4, ⟨h5, fun _ _ => World.ownsRow_nil _ _ _ _, fun _ _ _ _ _ => .inl rfl, h7.2.2⟩, h6, h7.1, h7.2.1⟩
end Go.Proofs.YtdelkgfodeilkaaDoor
