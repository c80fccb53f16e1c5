/-
  A row of rows that the call made ('OwnM'): how it is kept, read and appended to. Conditions: none.
-/
import Derived.Test.YtohggdfplmlinaaDoorMem
namespace Go.Proofs.YtohggdfplmlinaaDoor
open Go.RowKit

theorem grown_of_below {w w' : World} (h : Below w.heap.size w w') (row : Option Nat) : w.grownBy w' row := ⟨h.os, h.tape, h.output, h.size, fun i hi _ => h.block i hi⟩
theorem own_below {w w' : World} {base : Nat} {e : TypeId} {size n : Nat} {v : Value} {xs : List Value} (h : w.ownsRow base e size v n xs) (hb : Below w.heap.size w w') : w'.ownsRow base e size v n xs :=
  h.kept (grown_of_below hb none) (by
    rcases h.2 with ⟨rfl, _⟩ | ⟨g, cap, cur, rfl, _⟩
    · exact .inl rfl
    · exact .inr (by simp [Value.ownBlock]))
theorem own_blocks {w w' : World} {base : Nat} {e : TypeId} {size n : Nat} {v : Value} {xs : List Value} (h : w.ownsRow base e size v n xs) (hb : ∀ b, base ≤ b → b < w.heap.size → w'.heap[b]? = w.heap[b]?) : w'.ownsRow base e size v n xs := by
  obtain ⟨h1, h2 | ⟨g, cap, cur, h3, h4, h5, h6⟩⟩ := h
  · exact ⟨h1, .inl h2⟩
  · exact ⟨h1, .inr ⟨g, cap, cur, h3, h4, (hb g h4 (Array.getElem?_eq_some_iff.1 h5).1).trans h5, h6⟩⟩
/-- Two rows whose element types differ never share a block. -/
theorem own_own_ne {w : World} {b b' : Nat} {e e' : TypeId} {s s' n n' : Nat} {v v' : Value} {xs xs' : List Value} (h : w.ownsRow b e s v n xs) (h' : w.ownsRow b' e' s' v' n' xs') (hne : e ≠ e') : v.ownBlock = none ∨ v.ownBlock ≠ v'.ownBlock := by
  rcases h.2 with ⟨rfl, _⟩ | ⟨g, cap, cur, rfl, _, hh, _⟩
  · exact .inl rfl
  · refine .inr ?_
    rcases h'.2 with ⟨rfl, _⟩ | ⟨g', cap', cur', rfl, _, hh', _⟩
    · simp [Value.ownBlock]
    · intro he
      have : g = g' := by simpa [Value.ownBlock] using he
      subst this
      rw [hh] at hh'; injection hh' with hh'; injection hh' with _ ht
      exact hne ht
theorem own_mono {w : World} {b b' : Nat} {e : TypeId} {s n : Nat} {v : Value} {xs : List Value} (h : w.ownsRow b e s v n xs) (hb : b' ≤ b) : w.ownsRow b' e s v n xs := by
  obtain ⟨h1, h2 | ⟨g, cap, cur, h3, h4, h5⟩⟩ := h
  · exact ⟨h1, .inl h2⟩
  · exact ⟨h1, .inr ⟨g, cap, cur, h3, Nat.le_trans hb h4, h5⟩⟩

theorem grown_setCell (w : World) (p : Addr) (u : Value) : w.grownBy (w.setCell p u) (some p.block) :=
  ⟨rfl, rfl, rfl, by simp [World.setCell], fun k _ hne => Below.heap_setCell _ _ _ _ (fun e => hne (by rw [e]))⟩
/-- A row (elements of type e1) of rows (elements of type e0). -/
def OwnM (w : World) (base : Nat) (e1 e0 : TypeId) (v : Value) (gs : List (List Value)) : Prop :=
  ∃ vs : List Value, w.ownsRow base e1 1 v gs.length vs ∧ vs.length = gs.length ∧ ∀ (k : Nat) (hk : k < gs.length), ∃ u, vs[k]? = some u ∧ w.ownsRow base e0 1 u gs[k].length gs[k]

section
variable {w w' : World} {base : Nat} {e1 e0 : TypeId} {v : Value} {gs : List (List Value)}
theorem OwnM.nil_ (w : World) (base : Nat) (e1 e0 : TypeId) : OwnM w base e1 e0 (.slice none 0 0) [] := ⟨[], World.ownsRow_nil _ _ _ _, rfl, fun k hk => absurd hk (by simp)⟩
theorem OwnM.below (h : OwnM w base e1 e0 v gs) (hb : Below w.heap.size w w') : OwnM w' base e1 e0 v gs := by
  obtain ⟨vs, h1, h2, h3⟩ := h
  refine ⟨vs, own_below h1 hb, h2, fun k hk => ?_⟩
  obtain ⟨u, hu, ho⟩ := h3 k hk
  exact ⟨u, hu, own_below ho hb⟩
theorem OwnM.alloc (h : OwnM w base e1 e0 v gs) (o : Obj) : OwnM (w.alloc o) base e1 e0 v gs := h.below ((Below.refl _ _).alloc (Nat.le_refl _) o)
theorem OwnM.mono {b' : Nat} (h : OwnM w base e1 e0 v gs) (hb : b' ≤ base) : OwnM w b' e1 e0 v gs := by
  obtain ⟨vs, h1, h2, h3⟩ := h
  refine ⟨vs, own_mono h1 hb, h2, fun k hk => ?_⟩
  obtain ⟨u, hu, ho⟩ := h3 k hk
  exact ⟨u, hu, own_mono ho hb⟩
/-- A write to a block of another element type. -/
theorem OwnM.other {r : Nat} {cs : Array Value} {t : TypeId} (h : OwnM w base e1 e0 v gs) (hg : w.grownBy w' (some r)) (hr : Blk w r t cs) (h1 : e1 ≠ t) (h0 : e0 ≠ t) : OwnM w' base e1 e0 v gs := by
  obtain ⟨vs, h1', h2, h3⟩ := h
  refine ⟨vs, h1'.kept hg (.inr (own_blk_ne h1' hr h1)), h2, fun k hk => ?_⟩
  obtain ⟨u, hu, ho⟩ := h3 k hk
  exact ⟨u, hu, ho.kept hg (.inr (own_blk_ne ho hr h0))⟩
/-- A write below the base. -/
theorem OwnM.low {row : Option Nat} (h : OwnM w base e1 e0 v gs) (hg : w.grownBy w' row) (hr : ∀ r, row = some r → r < base) : OwnM w' base e1 e0 v gs := by
  obtain ⟨vs, h1', h2, h3⟩ := h
  have ne : ∀ {u : Value} {e n xs}, w.ownsRow base e 1 u n xs → u.ownBlock = none ∨ u.ownBlock ≠ row := fun {u e n xs} hu => by
    cases hb : u.ownBlock with
    | none => exact .inl rfl
    | some k => exact .inr (fun e => by have := hr k e.symm; have := (hu.lt k hb).1; omega)
  refine ⟨vs, h1'.kept hg (ne h1'), h2, fun k hk => ?_⟩
  obtain ⟨u, hu, ho⟩ := h3 k hk
  exact ⟨u, hu, ho.kept hg (ne ho)⟩
/-- Behind an append of one row. -/
theorem OwnM.push {u v' : Value} {xs : List Value} (h : OwnM w base e1 e0 v gs) (hne : e0 ≠ e1) (hu : w.ownsRow base e0 1 u xs.length xs)
    {n : Nat} {vs : List Value} (hv : w.ownsRow base e1 1 v n vs) (hg : w.grownBy w' v.ownBlock) (hown : w'.ownsRow base e1 1 v' (n + 1) (vs ++ [u])) : OwnM w' base e1 e0 v' (gs ++ [xs]) := by
  obtain ⟨vs0, h1, h2, h3⟩ := h
  obtain ⟨rfl, rfl⟩ : n = gs.length ∧ vs = vs0 := by
    have a := h1.1; have b := hv.1
    rcases h1.2 with ⟨e, hz⟩ | ⟨g, cap, cur, e, _, hh, _, _, _, ht⟩
    · subst e
      rcases hv.2 with ⟨_, hz'⟩ | ⟨g', cap', cur', e', _⟩
      · subst hz'; rw [hz] at a ⊢; simp at a b; exact ⟨rfl, by rw [a, b]⟩
      · cases e'
    · subst e
      rcases hv.2 with ⟨e', _⟩ | ⟨g', cap', cur', e', _, hh', _, _, _, ht'⟩
      · cases e'
      · injection e' with e1' e2' e3'
        injection e1' with e1'
        injection e1' with e1'
        subst e1'
        rw [hh] at hh'; injection hh' with hh'; injection hh' with hh'
        subst hh' 
        rw [← e2'] at ht' ⊢
        exact ⟨rfl, by rw [← ht, ← ht']⟩
  refine ⟨vs ++ [u], by simpa using hown, by simp [h2], fun k hk => ?_⟩
  by_cases hlt : k < gs.length
  · obtain ⟨u', hu', ho⟩ := h3 k hlt
    refine ⟨u', by rw [List.getElem?_append_left (by omega)]; exact hu', ?_⟩
    rw [List.getElem_append_left hlt]
    exact ho.kept hg (own_own_ne ho hv hne)
  · simp at hk
    obtain rfl : k = gs.length := by omega
    refine ⟨u, by rw [← h2]; simp, ?_⟩
    rw [List.getElem_append_right (by omega)]
    simp only [Nat.sub_self, List.getElem_cons_zero]
    exact hu.kept hg (own_own_ne hu hv hne)
/-- What a reader of one row meets. -/
theorem OwnM.at_ (h : OwnM w base e1 e0 v gs) {k : Nat} (hk : k < gs.length) :
    ∃ (g c : Nat) (u : Value), v = .slice (some ⟨g, 0, none⟩) gs.length c ∧ w.cell? ⟨g, k, none⟩ = some u ∧ w.ownsRow base e0 1 u gs[k].length gs[k] := by
  obtain ⟨vs, h1, h2, h3⟩ := h
  obtain ⟨u, hu, ho⟩ := h3 k hk
  obtain ⟨g, c, hv, _, _⟩ := h1.form (by omega)
  subst hv
  exact ⟨g, c, u, rfl, by rw [h1.cellAt k (by omega)]; exact hu, ho⟩
theorem OwnM.form (h : OwnM w base e1 e0 v gs) : ∃ A c, v = .slice A gs.length c ∧ gs.length ≤ c ∧ c ≤ maxLen := by
  obtain ⟨vs, h1, _⟩ := h
  exact ownsRow_form h1
end
end Go.Proofs.YtohggdfplmlinaaDoor
