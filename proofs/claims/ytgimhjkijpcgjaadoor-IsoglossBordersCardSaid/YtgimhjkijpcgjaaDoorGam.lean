/-
  layer 36: the memory of New while it runs. Conditions: none.
-/
import Derived.Test.YtgimhjkijpcgjaaDoorGal
import Derived.Test.YtgimhjkijpcgjaaDoorProg
import Derived.WalkKit
namespace Go.Proofs.YtgimhjkijpcgjaaDoor
open Go.RowKit Go.Lib

def setU {α : Type} (us : Nat → α) (k : Nat) (v : α) : Nat → α := fun j => if j = k then v else us j
theorem setU_same {α : Type} (us : Nat → α) (k : Nat) (v : α) : setU us k v k = v := by unfold setU; rw [if_pos rfl]
theorem setU_other {α : Type} {us : Nat → α} {k j : Nat} {v : α} (h : j ≠ k) : setU us k v j = us j := by unfold setU; rw [if_neg h]
def usA (N : Nat) (us : Nat → Value) : Array Value := ((List.range N).map us).toArray
theorem usA_get {N : Nat} (us : Nat → Value) {k : Nat} (h : k < N) : (usA N us)[k]? = some (us k) := by simp [usA, h]
theorem usA_set {N : Nat} (us : Nat → Value) {k : Nat} (hk : k < N) (v : Value) : (usA N us).setIfInBounds k v = usA N (setU us k v) := by
  unfold usA
  rw [List.setIfInBounds_toArray]
  congr 1
  apply List.ext_getElem?
  intro i
  rw [List.getElem?_set]
  by_cases e : k = i
  · subst e; simp [setU, hk]
  · rw [if_neg e]
    simp only [List.getElem?_map]
    by_cases hi : i < N
    · rw [List.getElem?_range hi]; simp [setU, Ne.symm e]
    · simp [hi]
/-- The rows of ends. -/
structure NearU (w : World) (base qE N : Nat) (us : Nat → Value) (near : Nat → List (Nat × Int)) : Prop where
  row : Blk w qE 104 (usA N us)
  rows : ∀ k, k < N → w.ownsRow base 106 2 (us k) (near k).length ((near k).flatMap endV)
  apart : ∀ j k, j < N → k < N → j ≠ k → (us j).ownBlock = none ∨ (us j).ownBlock ≠ (us k).ownBlock
  hq : base ≤ qE
section
variable {w w' : World} {base qE N : Nat} {us : Nat → Value} {near : Nat → List (Nat × Int)}
theorem NearU.later (h : NearU w base qE N us near) (hb : Below w.heap.size w w') : NearU w' base qE N us near := ⟨h.row.below hb h.row.lt, fun k hk => own_below (h.rows k hk) hb, h.apart, h.hq⟩
/-- Another block turns. -/
theorem NearU.kept (h : NearU w base qE N us near) {row : Option Nat} (hg : w.grownBy w' row) (h1 : some qE ≠ row) (h2 : ∀ k, k < N → (us k).ownBlock = none ∨ (us k).ownBlock ≠ row) : NearU w' base qE N us near :=
  ⟨h.row.grown hg h1, fun k hk => (h.rows k hk).kept hg (h2 k hk), h.apart, h.hq⟩
theorem NearU.other {g : Nat} {t : TypeId} {cs : Array Value} (h : NearU w base qE N us near) (hg : w.grownBy w' (some g)) (hb : Blk w g t cs) (h1 : 104 ≠ t) (h2 : 106 ≠ t) : NearU w' base qE N us near :=
  h.kept hg (fun e => Blk.ne_ h.row hb h1 (by injection e)) (fun k hk => .inr (own_blk_ne (h.rows k hk) hb h2))
theorem NearU.low {row : Option Nat} (h : NearU w base qE N us near) (hg : w.grownBy w' row) (hr : ∀ r, row = some r → r < base) : NearU w' base qE N us near :=
  h.kept hg (fun e => by have := hr _ e.symm; have := h.hq; omega) (fun k hk => by
    cases hb : (us k).ownBlock with
    | none => exact .inl rfl
    | some g => exact .inr (fun e => by have := hr g e.symm; have := ((h.rows k hk).lt g hb).1; omega))
/-- One row turns in its own block, or moves to a new one. -/
theorem NearU.turn (h : NearU w base qE N us near) {k : Nat} (hk : k < N) {v' : Value} {l' : List (Nat × Int)} (hg : w.grownBy w' (us k).ownBlock) (ho : w'.ownsRow base 106 2 v' l'.length (l'.flatMap endV)) (hv : v'.ownBlock = (us k).ownBlock ∨ ∃ g, v'.ownBlock = some g ∧ w.heap.size ≤ g) :
    NearU (w'.setCell ⟨qE, k, none⟩ v') base qE N (setU us k v') (setU near k l') := by
  have hne : (us k).ownBlock ≠ some qE := own_blk_ne (h.rows k hk) h.row (by decide)
  have hrow : Blk w' qE 104 (usA N us) := h.row.grown hg (fun e => hne e.symm)
  refine ⟨by rw [← usA_set us hk]; exact hrow.set_ k v', fun j hj => ?_, fun i j hi hj hij => ?_, h.hq⟩
  · by_cases e : j = k
    · subst e
      rw [setU_same, setU_same]
      exact ownsRow_setCell_other ho (own_blk_ne ho hrow (by decide)) _
    · rw [setU_other e, setU_other e]
      have := (h.rows j hj).kept hg (h.apart j k hj hk e)
      exact ownsRow_setCell_other this (own_blk_ne this hrow (by decide)) _
  · have far : ∀ j, j < N → j ≠ k → (us j).ownBlock = none ∨ (us j).ownBlock ≠ v'.ownBlock := by
      intro j hj e
      rcases hv with hv | ⟨g, hv, hgs⟩
      · rw [hv]; exact h.apart j k hj hk e
      · cases hb : (us j).ownBlock with
        | none => exact .inl rfl
        | some b =>
          refine .inr ?_
          rw [hv]
          intro e2
          injection e2 with e2
          have := ((h.rows j hj).lt b hb).2
          omega
    by_cases ei : i = k
    · subst ei
      rw [setU_same, setU_other (Ne.symm hij)]
      rcases far j hj (Ne.symm hij) with h1 | h1
      · cases hv' : v'.ownBlock with
        | none => exact .inl rfl
        | some b => exact .inr (by rw [h1]; simp)
      · exact .inr (Ne.symm h1)
    · rw [setU_other ei]
      by_cases ej : j = k
      · subst ej
        rw [setU_same]; exact far i hi ei
      · rw [setU_other ej]; exact h.apart i j hi hj hij
/-- A row that turns in its own block alone: the value stays. -/
theorem NearU.sort_ (h : NearU w base qE N us near) {k : Nat} (hk : k < N) {l' : List (Nat × Int)} (hg : w.grownBy w' (us k).ownBlock) (ho : w'.ownsRow base 106 2 (us k) l'.length (l'.flatMap endV)) : NearU w' base qE N us (setU near k l') := by
  have hne : (us k).ownBlock ≠ some qE := own_blk_ne (h.rows k hk) h.row (by decide)
  refine ⟨h.row.grown hg (fun e => hne e.symm), fun j hj => ?_, h.apart, h.hq⟩
  by_cases e : j = k
  · subst e; rw [setU_same]; exact ho
  · rw [setU_other e]; exact (h.rows j hj).kept hg (h.apart j k hj hk e)
theorem NearU.nearM (h : NearU w base qE N us near) (l : List (List (Nat × Int))) (hl : l.length = N) (he : ∀ k (hk : k < l.length), near k = l[k]) (hN : N ≤ maxLen) : NearM w base (.slice (some ⟨qE, 0, none⟩) N N) l := by
  refine ⟨(List.range N).map us, ⟨by simp [hl], .inr ⟨qE, N, usA N us, by rw [hl], h.hq, h.row, by omega, hN, by simp [usA], by simp only [usA, hl, Nat.mul_one]; exact List.take_of_length_le (by simp)⟩⟩, by simp [hl], fun k hk => ?_⟩
  refine ⟨us k, by rw [List.getElem?_map, List.getElem?_range (by omega)]; rfl, ?_⟩
  have := h.rows k (by omega)
  rwa [he k hk] at this
theorem NearU.cell (h : NearU w base qE N us near) {k : Nat} (hk : k < N) : w.cell? ⟨qE, k, none⟩ = some (us k) := (Blk.cell h.row k).trans (usA_get us hk)
end
theorem madeCells_nil (n : Nat) : madeCells #[.slice none 0 0] n = usA n (fun _ => .slice none 0 0) := by
  apply Array.ext
  · simp [madeCells, usA]
  · intro i h1 h2
    simp [madeCells, usA, Nat.mod_one]
/-- All of New's memory. -/
structure NewM (w wr : World) (g mb qE N : Nat) (vN vR : Value) (names : List ByteArray) (roads : List Rd) (cnt : Nat) (f : ByteArray → Option Int) (us : Nat → Value) (near : Nat → List (Nat × Int)) : Prop where
  blk : Blk wr g 61 #[vN, .map (some mb), vR, .slice (some ⟨qE, 0, none⟩) N N]
  nm : wr.ownsRow w.heap.size 9 1 vN names.length (strs names)
  mp : MapSI wr mb cnt f
  rd : wr.ownsRow w.heap.size 71 3 vR roads.length (roads.flatMap roadV)
  nr : NearU wr w.heap.size qE N us near
  below : Below w.heap.size w wr
  hg : w.heap.size ≤ g
  hm : w.heap.size ≤ mb
section
variable {w wr w' : World} {g mb qE N cnt : Nat} {vN vR : Value} {names : List ByteArray} {roads : List Rd} {f : ByteArray → Option Int} {us : Nat → Value} {near : Nat → List (Nat × Int)}
theorem NewM.later (h : NewM w wr g mb qE N vN vR names roads cnt f us near) (hb : Below wr.heap.size wr w') : NewM w w' g mb qE N vN vR names roads cnt f us near :=
  ⟨h.blk.below hb h.blk.lt, own_below h.nm hb, h.mp.below hb, own_below h.rd hb, h.nr.later hb, h.below.trans (hb.mono h.below.size), h.hg, h.hm⟩
theorem NewM.alloc (h : NewM w wr g mb qE N vN vR names roads cnt f us near) (o : Obj) : NewM w (wr.alloc o) g mb qE N vN vR names roads cnt f us near := h.later ((Below.refl _ _).alloc (Nat.le_refl _) o)
theorem NewM.drew (h : NewM w wr g mb qE N vN vR names roads cnt f us near) : NewM w wr.drew g mb qE N vN vR names roads cnt f us near := h.later ((Below.refl _ _).drew)
theorem map_ne_cells {b g : Nat} {t : TypeId} {cs : Array Value} {fz : Nat × Nat} (hm : MapSI w b cnt f) (hb : w.heap[g]? = some (.cells cs t fz)) : g ≠ b := by
  obtain ⟨es, clock, h1⟩ := hm.isMap
  rintro rfl
  rw [hb] at h1; cases h1
theorem own_ne_map {base b n size : Nat} {e : TypeId} {v : Value} {xs : List Value} (h : w.ownsRow base e size v n xs) (hm : MapSI w b cnt f) : v.ownBlock = none ∨ v.ownBlock ≠ some b := by
  rcases h.2 with ⟨rfl, _⟩ | ⟨q, cap, cur, rfl, _, hq, _⟩
  · exact .inl rfl
  · refine .inr (fun e => ?_)
    injection e with e
    exact map_ne_cells hm hq e
theorem NewM.name (h : NewM w wr g mb qE N vN vR names roads cnt f us near) {f' : ByteArray → Option Int} (hm : MapSI w' mb (cnt + 1) f') (hg : wr.grownBy w' (some mb)) : NewM w w' g mb qE N vN vR names roads (cnt + 1) f' us near :=
  ⟨h.blk.grown hg (fun e => map_ne_cells h.mp h.blk (by injection e)), h.nm.kept hg (own_ne_map h.nm h.mp), hm, h.rd.kept hg (own_ne_map h.rd h.mp),
    h.nr.kept hg (fun e => map_ne_cells h.mp h.nr.row (by injection e)) (fun k hk => own_ne_map (h.nr.rows k hk) h.mp), h.below.grown hg h.below.size (fun r e => by cases e; exact h.hm), h.hg, h.hm⟩
theorem NewM.push (h : NewM w wr g mb qE N vN vR names roads cnt f us near) {k : Nat} (hk : k < N) {v' : Value} {l' : List (Nat × Int)} (hg : wr.grownBy w' (us k).ownBlock) (ho : w'.ownsRow w.heap.size 106 2 v' l'.length (l'.flatMap endV)) (hv : v'.ownBlock = (us k).ownBlock ∨ ∃ g, v'.ownBlock = some g ∧ wr.heap.size ≤ g) :
    NewM w (w'.setCell ⟨qE, k, none⟩ v') g mb qE N vN vR names roads cnt f (setU us k v') (setU near k l') := by
  have hu := h.nr.rows k hk
  have hlow : ∀ r, (us k).ownBlock = some r → w.heap.size ≤ r := fun r e => (hu.lt r e).1
  have k1 : Blk w' g 61 #[vN, .map (some mb), vR, .slice (some ⟨qE, 0, none⟩) N N] := h.blk.grown hg (fun e => own_blk_ne hu h.blk (by decide) e.symm)
  have k2 := h.nm.kept hg (own_own_ne h.nm hu (by decide))
  have k3 := h.mp.kept hg (fun e => by
    rcases own_ne_map hu h.mp with h1 | h1
    · rw [h1] at e; cases e
    · exact h1 e.symm)
  have k4 := h.rd.kept hg (own_own_ne h.rd hu (by decide))
  have krow : Blk w' qE 104 (usA N us) := h.nr.row.grown hg (fun e => own_blk_ne hu h.nr.row (by decide) e.symm)
  refine ⟨k1.far (p := ⟨qE, k, none⟩) (Blk.ne_ k1 krow (by decide)) _, ownsRow_setCell_other k2 (own_blk_ne k2 krow (by decide)) _, k3.kept (grown_setCell _ _ _) (fun e => map_ne_cells k3 krow (by injection e with e; exact e.symm)), ownsRow_setCell_other k4 (own_blk_ne k4 krow (by decide)) _,
    h.nr.turn hk hg ho hv, (h.below.grown hg h.below.size hlow).setCell (p := ⟨qE, k, none⟩) h.nr.hq _, h.hg, h.hm⟩
theorem NewM.sort_ (h : NewM w wr g mb qE N vN vR names roads cnt f us near) {k : Nat} (hk : k < N) {l' : List (Nat × Int)} (hg : wr.grownBy w' (us k).ownBlock) (ho : w'.ownsRow w.heap.size 106 2 (us k) l'.length (l'.flatMap endV)) :
    NewM w w' g mb qE N vN vR names roads cnt f us (setU near k l') := by
  have hu := h.nr.rows k hk
  exact ⟨h.blk.grown hg (fun e => own_blk_ne hu h.blk (by decide) e.symm), h.nm.kept hg (own_own_ne h.nm hu (by decide)), h.mp.kept hg (fun e => by
    rcases own_ne_map hu h.mp with h1 | h1
    · rw [h1] at e; cases e
    · exact h1 e.symm), h.rd.kept hg (own_own_ne h.rd hu (by decide)), h.nr.sort_ hk hg ho, h.below.grown hg h.below.size (fun r e => (hu.lt r e).1), h.hg, h.hm⟩
theorem NewM.done (h : NewM w wr g mb qE N vN vR names roads cnt f us near) (hc : cnt = names.length) (hf : f = nameF names) (l : List (List (Nat × Int))) (hl : l.length = N) (he : ∀ k (hk : k < l.length), near k = l[k]) (hN : N ≤ maxLen) : MapAt wr g ⟨names, roads, l⟩ :=
  ⟨w.heap.size, vN, vR, _, _, h.blk, h.nm, .inl ⟨mb, rfl, by subst hc; subst hf; exact h.mp⟩, h.rd, h.nr.nearM l hl he hN⟩
end
/-! Facts that last while memory is made, for whatever order it is made in. -/
theorem below_al {a X : World} (h : Below a.heap.size a X) (o : Obj) : Below a.heap.size a (X.alloc o) := h.alloc h.size o
theorem below_lt {a X Y : World} (hb : Below X.heap.size X Y) (h : Below a.heap.size a X) : Below a.heap.size a Y := h.trans (hb.mono h.size)
theorem mapsi_al {X : World} {b n : Nat} {f : ByteArray → Option Int} (h : MapSI X b n f) (o : Obj) : MapSI (X.alloc o) b n f := h.below ((Below.refl _ _).alloc (Nat.le_refl _) o)
theorem mapsi_drew {X : World} {b n : Nat} {f : ByteArray → Option Int} (h : MapSI X b n f) : MapSI X.drew b n f := h.below (Below.refl _ _).drew
theorem mapsi_lt {X Y : World} {b n : Nat} {f : ByteArray → Option Int} (hb : Below X.heap.size X Y) (h : MapSI X b n f) : MapSI Y b n f := h.below hb
theorem mapsi_made {W : World} {b : Nat} (e : W.heap.size = b) : MapSI (W.alloc (.map #[] 0)) b 0 (fun _ => none) := by subst e; exact MapSI.made W
theorem own_al {X : World} {B n s : Nat} {e : TypeId} {v : Value} {xs : List Value} (h : X.ownsRow B e s v n xs) (o : Obj) : (X.alloc o).ownsRow B e s v n xs := own_below h ((Below.refl _ _).alloc (Nat.le_refl _) o)
theorem own_dr {X : World} {B n s : Nat} {e : TypeId} {v : Value} {xs : List Value} (h : X.ownsRow B e s v n xs) : X.drew.ownsRow B e s v n xs := own_below h (Below.refl _ _).drew
theorem own_lt {X Y : World} {B n s : Nat} {e : TypeId} {v : Value} {xs : List Value} (hb : Below X.heap.size X Y) (h : X.ownsRow B e s v n xs) : Y.ownsRow B e s v n xs := own_below h hb
theorem blk_lt {X Y : World} {g : Nat} {t : TypeId} {cs : Array Value} (hb : Below X.heap.size X Y) (h : Blk X g t cs) : Blk Y g t cs := h.below hb h.lt
theorem blk_new' {W : World} {g : Nat} {t : TypeId} {cs : Array Value} (e : W.heap.size = g) : Blk (W.alloc (.cells cs t)) g t cs := by subst e; exact Blk.new W t cs
theorem blk_made {W : World} {g n : Nat} (e : W.heap.size = g) : Blk (W.alloc (.cells (madeCells #[.slice none 0 0] n) 104)) g 104 (usA n (fun _ => .slice none 0 0)) := by subst e; rw [madeCells_nil]; exact Blk.new W _ _
theorem size_drew_ (W : World) : W.drew.heap.size = W.heap.size := rfl
theorem NewM.start {w X : World} {g mb qE N : Nat} {vN vR : Value} {names : List ByteArray} {roads : List Rd} (h1 : Blk X g 61 #[vN, .map (some mb), vR, .slice (some ⟨qE, 0, none⟩) N N]) (h2 : X.ownsRow w.heap.size 9 1 vN names.length (strs names)) (h3 : MapSI X mb 0 (fun _ => none))
    (h4 : X.ownsRow w.heap.size 71 3 vR roads.length (roads.flatMap roadV)) (h5 : Blk X qE 104 (usA N (fun _ => .slice none 0 0))) (h6 : Below w.heap.size w X) (h7 : w.heap.size ≤ g ∧ w.heap.size ≤ mb ∧ w.heap.size ≤ qE) :
    NewM w X g mb qE N vN vR names roads 0 (fun _ => none) (fun _ => .slice none 0 0) (fun _ => []) :=
  ⟨h1, h2, h3, h4, ⟨h5, fun _ _ => World.ownsRow_nil _ _ _ _, fun _ _ _ _ _ => .inl rfl, h7.2.2⟩, h6, h7.1, h7.2.1⟩
end Go.Proofs.YtgimhjkijpcgjaaDoor
namespace Go.Proofs.YtgimhjkijpcgjaaDoor
open Go.RowKit Go.Lib

/-- The rows of other ends. -/
structure NearI (w : World) (base qE N : Nat) (us : Nat → Value) (near : Nat → List Nat) : Prop where
  row : Blk w qE 26 (usA N us)
  rows : ∀ k, k < N → w.ownsRow base 3 1 (us k) (near k).length (nats (near k))
  apart : ∀ j k, j < N → k < N → j ≠ k → (us j).ownBlock = none ∨ (us j).ownBlock ≠ (us k).ownBlock
  hq : base ≤ qE
section
variable {w w' : World} {base qE N : Nat} {us : Nat → Value} {near : Nat → List Nat}
theorem NearI.later (h : NearI w base qE N us near) (hb : Below w.heap.size w w') : NearI w' base qE N us near := ⟨h.row.below hb h.row.lt, fun k hk => own_below (h.rows k hk) hb, h.apart, h.hq⟩
theorem NearI.turn (h : NearI w base qE N us near) {k : Nat} (hk : k < N) {v' : Value} {l' : List Nat} (hg : w.grownBy w' (us k).ownBlock) (ho : w'.ownsRow base 3 1 v' l'.length (nats l')) (hv : v'.ownBlock = (us k).ownBlock ∨ ∃ g, v'.ownBlock = some g ∧ w.heap.size ≤ g) :
    NearI (w'.setCell ⟨qE, k, none⟩ v') base qE N (setU us k v') (setU near k l') := by
  have hne : (us k).ownBlock ≠ some qE := own_blk_ne (h.rows k hk) h.row (by decide)
  have hrow : Blk w' qE 26 (usA N us) := h.row.grown hg (fun e => hne e.symm)
  refine ⟨by rw [← usA_set us hk]; exact hrow.set_ k v', fun j hj => ?_, fun i j hi hj hij => ?_, h.hq⟩
  · by_cases e : j = k
    · subst e
      rw [setU_same, setU_same]
      exact ownsRow_setCell_other ho (own_blk_ne ho hrow (by decide)) _
    · rw [setU_other e, setU_other e]
      have := (h.rows j hj).kept hg (h.apart j k hj hk e)
      exact ownsRow_setCell_other this (own_blk_ne this hrow (by decide)) _
  · have far : ∀ j, j < N → j ≠ k → (us j).ownBlock = none ∨ (us j).ownBlock ≠ v'.ownBlock := by
      intro j hj e
      rcases hv with hv | ⟨g, hv, hgs⟩
      · rw [hv]; exact h.apart j k hj hk e
      · cases hb : (us j).ownBlock with
        | none => exact .inl rfl
        | some b =>
          refine .inr ?_
          rw [hv]
          intro e2
          injection e2 with e2
          have := ((h.rows j hj).lt b hb).2
          omega
    by_cases ei : i = k
    · subst ei
      rw [setU_same, setU_other (Ne.symm hij)]
      rcases far j hj (Ne.symm hij) with h1 | h1
      · cases hv' : v'.ownBlock with
        | none => exact .inl rfl
        | some b => exact .inr (by rw [h1]; simp)
      · exact .inr (Ne.symm h1)
    · rw [setU_other ei]
      by_cases ej : j = k
      · subst ej
        rw [setU_same]; exact far i hi ei
      · rw [setU_other ej]; exact h.apart i j hi hj hij
theorem NearI.cell (h : NearI w base qE N us near) {k : Nat} (hk : k < N) : w.cell? ⟨qE, k, none⟩ = some (us k) := (Blk.cell h.row k).trans (usA_get us hk)
end
theorem NearI.made (w : World) (N : Nat) : NearI (w.alloc (.cells (madeCells #[.slice none 0 0] N) 26)) w.heap.size w.heap.size N (fun _ => .slice none 0 0) (fun _ => []) :=
  ⟨by rw [madeCells_nil]; exact Blk.new w _ _, fun _ _ => World.ownsRow_nil _ _ _ _, fun _ _ _ _ _ => .inl rfl, Nat.le_refl _⟩

/-- A queue of ints that may begin inside its block. -/
def QRow (w : World) (B : Nat) (v : Value) (T : List Nat) : Prop :=
  ∃ g o c cur, v = .slice (some ⟨g, o, none⟩) T.length c ∧ B ≤ g ∧ Blk w g 3 cur ∧ T.length ≤ c ∧ c ≤ maxLen ∧ o + c ≤ cur.size ∧ ∀ j (hj : j < T.length), cur[o + j]? = some (.int .i64 (T[j] : Nat))
theorem QRow.below {w w' : World} {B : Nat} {v : Value} {T : List Nat} (h : QRow w B v T) (hb : Below w.heap.size w w') : QRow w' B v T := by
  obtain ⟨g, o, c, cur, h1, h2, h3, h4⟩ := h
  exact ⟨g, o, c, cur, h1, h2, h3.below hb h3.lt, h4⟩
/-- A cell ahead of the queue's blocks turns. -/
theorem QRow.set_ {w : World} {B : Nat} {v : Value} {T : List Nat} (h : QRow w B v T) {p : Addr} (hp : p.block < B) (u : Value) : QRow (w.setCell p u) B v T := by
  obtain ⟨g, o, c, cur, h1, h2, h3, h4⟩ := h
  exact ⟨g, o, c, cur, h1, h2, h3.far (by omega) u, h4⟩
theorem QRow.cell {w : World} {B g o n c : Nat} {T : List Nat} (h : QRow w B (.slice (some ⟨g, o, none⟩) n c) T) {j : Nat} (hj : j < T.length) : w.cell? ⟨g, o + j, none⟩ = some (.int .i64 (T[j] : Nat)) := by
  obtain ⟨g', o', c', cur, h1, h2, h3, h4, h5, h6, h7⟩ := h
  simp only [Value.slice.injEq, Option.some.injEq, Addr.mk.injEq, and_true] at h1
  obtain ⟨⟨rfl, rfl⟩, _, _⟩ := h1
  exact (Blk.cell h3 (o + j)).trans (h7 j hj)
theorem QRow.first (w : World) (a : Nat) : QRow (w.alloc (.cells #[.int .i64 (a : Int)] 3)) w.heap.size (.slice (some ⟨w.heap.size, 0, none⟩) 1 1) [a] :=
  ⟨w.heap.size, 0, 1, _, rfl, Nat.le_refl _, Blk.new w _ _, Nat.le_refl _, by unfold maxLen; decide, by simp, fun j hj => by
    obtain rfl : j = 0 := by simpa using hj
    simp⟩
/-- The queue without its head; where nothing is left of its capacity, it keeps its address. -/
theorem QRow.tail {w : World} {B g o n c : Nat} {x : Nat} {T : List Nat} (h : QRow w B (.slice (some ⟨g, o, none⟩) n c) (x :: T)) : QRow w B (.slice (some ⟨g, o + 1, none⟩) T.length (c - 1)) T := by
  obtain ⟨g', o', c', cur, h1, h2, h3, h4, h5, h6, h7⟩ := h
  simp only [Value.slice.injEq, Option.some.injEq, Addr.mk.injEq, and_true] at h1
  obtain ⟨⟨rfl, rfl⟩, rfl, rfl⟩ := h1
  simp only [List.length_cons] at h4
  refine ⟨g, o + 1, c - 1, cur, rfl, h2, h3, by omega, by omega, by omega, fun j hj => ?_⟩
  have := h7 (j + 1) (by simp only [List.length_cons]; omega)
  rw [show o + 1 + j = o + (j + 1) by omega, this]
  simp
theorem QRow.tail1 {w : World} {B g o n : Nat} {x : Nat} {T : List Nat} (h : QRow w B (.slice (some ⟨g, o, none⟩) n 1) (x :: T)) : T = [] ∧ QRow w B (.slice (some ⟨g, o, none⟩) 0 0) [] := by
  obtain ⟨g', o', c', cur, h1, h2, h3, h4, h5, h6, h7⟩ := h
  simp only [Value.slice.injEq, Option.some.injEq, Addr.mk.injEq, and_true] at h1
  obtain ⟨⟨rfl, rfl⟩, rfl, rfl⟩ := h1
  simp only [List.length_cons] at h4
  exact ⟨List.eq_nil_of_length_eq_zero (by omega), g, o, 0, cur, rfl, h2, h3, by simp, by omega, by omega, fun j hj => absurd hj (by simp)⟩
theorem QRow.form {w : World} {B : Nat} {v : Value} {T : List Nat} (h : QRow w B v T) : ∃ g o c, v = .slice (some ⟨g, o, none⟩) T.length c ∧ T.length ≤ c ∧ c ≤ maxLen ∧ B ≤ g ∧ g < w.heap.size := by
  obtain ⟨g, o, c, cur, h1, h2, h3, h4, h5, _⟩ := h
  exact ⟨g, o, c, h1, h4, h5, h2, h3.lt⟩
theorem run_append_roomAt {P : Program} (w : World) (t ty e : TypeId) (i : TypeInfo) (ht : P.underlying t = some (.slice e)) (hi : P.info? e = some i) (hs : i.size = 1)
    (g o sLen sCap : Nat) (cur : Array Value) (hg : w.heap[g]? = some (.cells cur e (0, 0)))
    (a : Addr) (c : Nat) (u : Value) (hu : w.cell? (a.add 0) = some u) (h1 : u.oneCell' = true)
    (hroom : sLen + 1 ≤ sCap) (hfit : o + sLen + 1 ≤ cur.size) :
    (Builtin.append_ #[t, t] ty #[.slice (some ⟨g, o, none⟩) sLen sCap, .slice (some a) 1 c]).run P w =
      .ok (.slice (some ⟨g, o, none⟩) (sLen + 1) sCap) (w.setRow g (cur.toList.take (o + sLen) ++ [u] ++ cur.toList.drop (o + sLen + 1)).toArray) := by
  have hf := run_firstCells_some (P := P) w i.size 1 a 1 c [u] (by simp [hs]) (fun j v hj => by
    obtain rfl : j = 0 := by have := (List.getElem?_eq_some_iff.1 hj).1; simpa using this
    simp only [List.getElem?_cons_zero, Option.some.injEq] at hj
    subst hj; exact hu)
  have hst := run_storeCells_at P g (o + sLen) e [u] 0 cur w hg (by simpa using hfit) (by simpa using h1)
  simp only [Nat.add_zero, List.length_singleton] at hst
  rw [hs] at hf
  have ha : (⟨g, o, none⟩ : Addr).add sLen = ⟨g, o + sLen, none⟩ := by unfold Addr.add; split <;> simp_all
  simp [Builtin.append_, run_underlying ht, sizeOf, typeInfo, hi, hs, Builtin.lenOf, hroom, hf, ha, hst]
/-- One int more. -/
theorem run_append_q (w : World) (B : Nat) (hB : B ≤ w.heap.size) (v : Value) (T : List Nat) (y : Nat) (h : QRow w B v T) (a : Addr) (c : Nat) (hu : w.cell? (a.add 0) = some (.int .i64 (y : Int))) (hT : T.length ≤ 1000000) (ty : TypeId) :
    ∃ v' w', (Builtin.append_ #[26, 26] ty #[v, .slice (some a) 1 c]).run Tryd.prog w = .ok v' w' ∧ QRow w' B v' (T ++ [y]) ∧ w.grownBy w' v.ownBlock := by
  obtain ⟨i0, hi, hz0, hz1, hz2⟩ := info_parts (show (Tryd.prog.info? 3).map (fun i => (i.zero, i.size, i.bytes)) = some (some (.int .i64 0), 1, 8) by kernel_rfl)
  obtain ⟨g, o, cap, cur, rfl, hbg, hg, hnc, hcm, hoc, hcell⟩ := h
  by_cases hroom : T.length + 1 ≤ cap
  · have hr := run_append_roomAt (P := Tryd.prog) w 26 ty 3 i0 Tryd.underlying26 hi hz1 g o T.length cap cur hg a c _ hu rfl hroom (by omega)
    refine ⟨_, _, hr, ⟨g, o, cap, _, by simp, hbg, setRow_heap w g cur _ 3 _ hg, by simp; omega, hcm, ?_, fun j hj => ?_⟩, ⟨rfl, rfl, rfl, by simp, fun k _ hk => setRow_other w g k _ (fun e => hk (by simp [Value.ownBlock, e]))⟩⟩
    · simp; omega
    · have hl : j ≤ T.length := by simp at hj; omega
      rw [List.getElem?_toArray, List.append_assoc]
      have htl : (cur.toList.take (o + T.length)).length = o + T.length := by
        have := Array.length_toList (xs := cur)
        rw [List.length_take]; omega
      rcases Nat.lt_or_ge j T.length with hlt | hge
      · rw [List.getElem?_append_left (by omega), List.getElem?_take, if_pos (by omega), List.getElem_append_left hlt]
        have := hcell j hlt
        rwa [← Array.getElem?_toList] at this
      · obtain rfl : j = T.length := by omega
        rw [List.getElem?_append_right (by omega), htl, List.getElem_append_right (by omega)]
        simp
  · have holds : ∀ j u, (nats T)[j]? = some u → w.cell? ((⟨g, o, none⟩ : Addr).add j) = some u := fun j u hj => by
      have hjl : j < T.length := by have := (List.getElem?_eq_some_iff.1 hj).1; simpa [nats] using this
      rw [show (⟨g, o, none⟩ : Addr).add j = ⟨g, o + j, none⟩ by unfold Addr.add; split <;> simp_all, (Blk.cell hg (o + j)), hcell j hjl, ← hj]
      simp [nats, hjl]
    have hr := run_append_grow (P := Tryd.prog) w 26 ty 3 i0 _ Tryd.underlying26 hi hz0 ⟨g, o, none⟩ T.length cap (nats T) (by simp [nats, hz1]) holds a 1 c [.int .i64 (y : Int)] (by simp [hz1]) (fun j v hj => by
      obtain rfl : j = 0 := by have := (List.getElem?_eq_some_iff.1 hj).1; simpa using this
      simp only [List.getElem?_cons_zero, Option.some.injEq] at hj
      subst hj; exact hu) (by omega) (by omega) (growslice_fits (by omega) (by rw [hz2]; omega))
    have hge := grownCap_ge w (T.length + 1) cap 3
    have hcm2 : grownCap w (T.length + 1) cap 3 ≤ maxLen := grownCap_le_maxLen w (T.length + 1) cap 3 (by unfold maxLen; omega)
    refine ⟨_, _, hr, ⟨w.heap.size, 0, _, _, by simp, hB, heap_alloc_new w.drew _, by simp; omega, hcm2, ?_, fun j hj => ?_⟩, ⟨rfl, rfl, rfl, by simp, fun k hk _ => Below.heap_alloc w.drew _ k hk⟩⟩
    · simp [nats, size_zeroCells, Value.cells]; omega
    · have hl : j ≤ T.length := by simp at hj; omega
      rw [Nat.zero_add, Array.getElem?_append_left (by simp [nats]; omega)]
      have e2 : ((nats T).toArray ++ [Value.int .i64 (y : Int)].toArray)[j]? = (nats (T ++ [y]))[j]? := by simp [nats]
      rw [e2]
      show ((T ++ [y]).map fun (x : Nat) => Value.int .i64 (x : Int))[j]? = _
      rw [List.getElem?_map, List.getElem?_eq_getElem hj]; rfl
theorem wpList_append_q (w : World) {ops : Array Oper} {rest : List Oper} {o : Oper} {a : Act} {Q : Exit → Act → World → Prop} (hgd : o.guard = none) (s x : Operand)
    (ho : o.op = .call { callee := .builtin .append, args := #[s, x], argTypes := #[26, 26] })
    (B : Nat) (hB : B ≤ w.heap.size) (v : Value) (T : List Nat) (y : Nat) (hs : a.eval s = v) (h : QRow w B v T) (ad : Addr) (c : Nat) (hx : a.eval x = .slice (some ad) 1 c) (hu : w.cell? (ad.add 0) = some (.int .i64 (y : Int))) (hT : T.length ≤ 1000000)
    (hK : ∀ v' w', QRow w' B v' (T ++ [y]) → w.grownBy w' v.ownBlock → wpList Tryd.prog ops Q rest (a.put o.dst v') w') : wpList Tryd.prog ops Q (o :: rest) a w := by
  obtain ⟨v', w', hrun, h2, h3⟩ := run_append_q w B hB v T y h ad c hu hT o.type
  refine wpList_plain hgd fun _ hK' => ?_
  refine show Oper.wp _ _ _ _ _ _ from ?_
  unfold Oper.wp execOp
  simp only [ho, resolve, invoke, builtin, Sem.run_bind, Sem.run_pure, Result.andThen_ok, List.map_toArray, List.map_cons, List.map_nil, hs, hx, hrun]
  exact hK' _ _ (hK v' w' h2 h3)
end Go.Proofs.YtgimhjkijpcgjaaDoor
namespace Go.Proofs.YtgimhjkijpcgjaaDoor

/-- The loops of a body, each ahead of those in it. -/
def loopsOf : Code → List Code
  | .loop c => c :: loopsOf c
  | .seq a b => loopsOf a ++ loopsOf b
  | .cond _ a b => loopsOf a ++ loopsOf b
  | .block _ c => loopsOf c
  | .scope c => loopsOf c
  | .rangeFunc _ _ a b => loopsOf a ++ loopsOf b
  | _ => []
def loopAt (f : Func) (k : Nat) : Code := ((f.body.map loopsOf).getD []).getD k .skip
end Go.Proofs.YtgimhjkijpcgjaaDoor
