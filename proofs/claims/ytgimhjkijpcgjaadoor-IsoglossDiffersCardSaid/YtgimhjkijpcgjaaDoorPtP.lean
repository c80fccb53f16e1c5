/-
  Plain facts of layer 36, of no program: rows of distances; they are unique, bounded; how the reference and the program make them. Conditions: none.
-/
import Derived.WalkKit
namespace Go.Proofs.YtgimhjkijpcgjaaDoor

/-- A graph: from, to, length. -/
abbrev Gr := Nat → Nat → Int → Prop
/-- What distances from a are: -1 where there is no way. -/
structure DistRow (E : Gr) (a : Nat) (r : Nat → Int) : Prop where
  self : r a = 0
  low : ∀ v, -1 ≤ r v
  step : ∀ u v l, E u v l → 0 ≤ r u → 0 ≤ r v ∧ r v ≤ r u + l
  pred : ∀ v, 0 ≤ r v → v = a ∨ ∃ u l, E u v l ∧ 0 ≤ r u ∧ r v = r u + l
/-- Lengths are from 1 to C. -/
def Lens (E : Gr) (C : Int) : Prop := ∀ u v l, E u v l → 1 ≤ l ∧ l ≤ C
theorem DistRow.le {E : Gr} {C : Int} (hl : Lens E C) {a : Nat} {r r' : Nat → Int} (h : DistRow E a r) (h' : DistRow E a r') : ∀ (k : Nat) (v : Nat), 0 ≤ r v → r v ≤ k → 0 ≤ r' v ∧ r' v ≤ r v := by
  intro k
  induction k with
  | zero =>
    intro v h0 hk
    rcases h.pred v h0 with rfl | ⟨u, l, he, hu, hv⟩
    · rw [h'.self, h.self]; omega
    · have := (hl u v l he).1; omega
  | succ k ih =>
    intro v h0 hk
    rcases h.pred v h0 with rfl | ⟨u, l, he, hu, hv⟩
    · rw [h'.self, h.self]; omega
    · have h1 := (hl u v l he).1
      obtain ⟨i1, i2⟩ := ih u hu (by omega)
      obtain ⟨j1, j2⟩ := h'.step u v l he i1
      exact ⟨j1, by omega⟩
theorem DistRow.unique {E : Gr} {C : Int} (hl : Lens E C) {a : Nat} {r r' : Nat → Int} (h : DistRow E a r) (h' : DistRow E a r') (v : Nat) : r v = r' v := by
  have l1 := h.low v
  have l2 := h'.low v
  by_cases h0 : 0 ≤ r v
  · have a1 := DistRow.le hl h h' (r v).toNat v h0 (by omega)
    have a2 := DistRow.le hl h' h (r' v).toNat v a1.1 (by omega)
    omega
  · by_cases h1 : 0 ≤ r' v
    · have a2 := DistRow.le hl h' h (r' v).toNat v h1 (by omega)
      omega
    · omega
/-- How many of the first n are nearer than x. -/
def nearer (r : Nat → Int) (n : Nat) (x : Int) : Nat := ((List.range n).filter fun u => decide (0 ≤ r u ∧ r u < x)).length
theorem nearer_le (r : Nat → Int) (n : Nat) (x : Int) : nearer r n x ≤ n := by
  unfold nearer; refine Nat.le_trans (List.length_filter_le _ _) ?_; simp
theorem filter_lt {α : Type} {p q : α → Bool} : ∀ (l : List α), (∀ x ∈ l, p x = true → q x = true) → ∀ y ∈ l, p y = false → q y = true → (l.filter p).length < (l.filter q).length
  | [], _, y, hy, _, _ => by cases hy
  | a :: l, h, y, hy, hp, hq => by
    have hsub : (l.filter p).length ≤ (l.filter q).length := by
      clear hy hp hq
      have h' : ∀ x ∈ l, p x = true → q x = true := fun x hx => h x (List.mem_cons_of_mem _ hx)
      clear h
      induction l with
      | nil => simp
      | cons b l ih =>
        have ihh := ih (fun x hx => h' x (List.mem_cons_of_mem _ hx))
        rw [List.filter_cons, List.filter_cons]
        cases hb : p b
        · rw [if_neg (by decide)]
          split
          · rw [List.length_cons]; omega
          · exact ihh
        · rw [if_pos rfl, if_pos (h' b (by simp) hb), List.length_cons, List.length_cons]; omega
    rw [List.filter_cons, List.filter_cons]
    rcases List.mem_cons.1 hy with rfl | hy
    · rw [hp, hq, if_neg (by decide), if_pos rfl, List.length_cons]; omega
    · have ih := filter_lt l (fun x hx => h x (List.mem_cons_of_mem _ hx)) y hy hp hq
      cases ha : p a
      · rw [if_neg (by decide)]
        split
        · rw [List.length_cons]; omega
        · exact ih
      · rw [if_pos rfl, if_pos (h a (by simp) ha), List.length_cons, List.length_cons]; omega
theorem nearer_lt {r : Nat → Int} {n u : Nat} {x : Int} (hu : u < n) (h0 : 0 ≤ r u) (hx : r u < x) : nearer r n (r u) < nearer r n x := by
  unfold nearer
  refine filter_lt _ (fun y _ hy => ?_) u (List.mem_range.2 hu) (decide_eq_false (by omega)) (decide_eq_true ⟨h0, hx⟩)
  rw [decide_eq_true_iff] at hy ⊢
  omega
/-- Distances are bounded: each is the sum of fewer than n lengths. -/
theorem dist_bound {C : Int} (hC : 0 ≤ C) {n a : Nat} {r : Nat → Int} (ha : r a = 0) (hn : ∀ u, 0 ≤ r u → u < n) (hp : ∀ v, 0 ≤ r v → v = a ∨ ∃ u l, 1 ≤ l ∧ l ≤ C ∧ 0 ≤ r u ∧ r v = r u + l) :
    ∀ (k : Nat) (v : Nat), 0 ≤ r v → r v ≤ k → r v ≤ nearer r n (r v) * C := by
  intro k
  induction k with
  | zero =>
    intro v h0 hk
    have : r v = 0 := by omega
    rw [this]
    exact Int.mul_nonneg (by omega) hC
  | succ k ih =>
    intro v h0 hk
    rcases hp v h0 with rfl | ⟨u, l, h1, h2, h3, h4⟩
    · rw [ha]; exact Int.mul_nonneg (by omega) hC
    · have i := ih u h3 (by omega)
      have hlt := nearer_lt (n := n) (x := r v) (hn u h3) h3 (by omega)
      have hle : ((nearer r n (r u) : Int) + 1) * C ≤ nearer r n (r v) * C := Int.mul_le_mul_of_nonneg_right (by omega) hC
      rw [Int.add_mul, Int.one_mul] at hle
      omega
theorem dist_le {C : Int} (hC : 0 ≤ C) {n a : Nat} {r : Nat → Int} (ha : r a = 0) (hn : ∀ u, 0 ≤ r u → u < n) (hp : ∀ v, 0 ≤ r v → v = a ∨ ∃ u l, 1 ≤ l ∧ l ≤ C ∧ 0 ≤ r u ∧ r v = r u + l) {v : Nat} (h0 : 0 ≤ r v) : r v ≤ n * C := by
  have h1 := dist_bound hC ha hn hp (r v).toNat v h0 (by omega)
  have h2 : (nearer r n (r v) : Int) * C ≤ n * C := Int.mul_le_mul_of_nonneg_right (by have := nearer_le r n (r v); omega) hC
  omega

/-! The reference: ways over the points up to k. -/
/-- Only ways over points below k: an edge may leave from i and from those. -/
def upTo (E : Gr) (k i : Nat) : Gr := fun u v l => E u v l ∧ (u = i ∨ u < k)
def better (D : Nat → Nat → Int) (k i j : Nat) : Int := if 0 ≤ D i k ∧ 0 ≤ D k j ∧ (D i j < 0 ∨ D i k + D k j < D i j) then D i k + D k j else D i j
theorem better_k1 {D : Nat → Nat → Int} {k : Nat} (h : D k k = 0) (i : Nat) : better D k i k = D i k := by unfold better; rw [if_neg (by omega)]
theorem better_k2 {D : Nat → Nat → Int} {k : Nat} (h : D k k = 0) (j : Nat) : better D k k j = D k j := by unfold better; rw [if_neg (by omega)]
theorem better_le {D : Nat → Nat → Int} {k i j : Nat} (h : 0 ≤ D i j) : 0 ≤ better D k i j ∧ better D k i j ≤ D i j := by unfold better; split <;> omega
theorem better_via {D : Nat → Nat → Int} {k i j : Nat} (h1 : 0 ≤ D i k) (h2 : 0 ≤ D k j) : 0 ≤ better D k i j ∧ better D k i j ≤ D i k + D k j := by unfold better; split <;> omega
theorem better_row {E : Gr} {C : Int} (hl : Lens E C) {D : Nat → Nat → Int} {k : Nat} (h : ∀ i, DistRow (upTo E k i) i (D i)) (i : Nat) : DistRow (upTo E (k + 1) i) i (better D k i) := by
  have hself : better D k i i = 0 := by
    have h1 := (h i).self
    unfold better
    split
    · omega
    · exact h1
  have hstep : ∀ u v l, upTo E (k + 1) i u v l → 0 ≤ better D k i u → 0 ≤ better D k i v ∧ better D k i v ≤ better D k i u + l := by
    intro u v l ⟨he, hu⟩ h0
    have hpos := (hl u v l he).1
    by_cases hui : u = i
    · subst hui
      have e1 := (h u).step u v l ⟨he, .inl rfl⟩ (by rw [(h u).self]; omega)
      have e2 := better_le (k := k) e1.1
      rw [hself, (h u).self] at *
      omega
    · by_cases huk : u = k
      · subst huk
        rw [better_k1 (h u).self] at h0 ⊢
        have e1 := (h u).step u v l ⟨he, .inl rfl⟩ (by rw [(h u).self]; omega)
        rw [(h u).self] at e1
        have e2 := better_via h0 e1.1
        omega
      · have huk' : u < k := by rcases hu with hu | hu <;> omega
        by_cases himp : 0 ≤ D i k ∧ 0 ≤ D k u ∧ (D i u < 0 ∨ D i k + D k u < D i u)
        · have hb : better D k i u = D i k + D k u := by unfold better; rw [if_pos himp]
          have e1 := (h k).step u v l ⟨he, .inr huk'⟩ himp.2.1
          have e2 := better_via himp.1 e1.1
          omega
        · have hb : better D k i u = D i u := by unfold better; rw [if_neg himp]
          rw [hb] at h0 ⊢
          have e1 := (h i).step u v l ⟨he, .inr huk'⟩ h0
          have e2 := better_le (k := k) e1.1
          omega
  refine ⟨hself, fun v => ?_, hstep, fun v h0 => ?_⟩
  · have h1 := (h i).low v
    unfold better; split <;> omega
  · by_cases himp : 0 ≤ D i k ∧ 0 ≤ D k v ∧ (D i v < 0 ∨ D i k + D k v < D i v)
    · have hb : better D k i v = D i k + D k v := by unfold better; rw [if_pos himp]
      rcases (h k).pred v himp.2.1 with rfl | ⟨u, l, ⟨he, hu⟩, hu0, huv⟩
      · have := (h v).self; omega
      · have hu' : u < k + 1 := by rcases hu with hu | hu <;> omega
        have e1 := better_via himp.1 hu0
        have e2 := hstep u v l ⟨he, .inr hu'⟩ e1.1
        exact .inr ⟨u, l, ⟨he, .inr hu'⟩, e1.1, by omega⟩
    · have hb : better D k i v = D i v := by unfold better; rw [if_neg himp]
      rw [hb] at h0
      rcases (h i).pred v h0 with rfl | ⟨u, l, ⟨he, hu⟩, hu0, huv⟩
      · exact .inl rfl
      · have hu' : u = i ∨ u < k + 1 := by rcases hu with hu | hu <;> omega
        have e1 := better_le (k := k) hu0
        have e2 := hstep u v l ⟨he, hu'⟩ e1.1
        exact .inr ⟨u, l, ⟨he, hu'⟩, e1.1, by omega⟩
/-- The rows that are begun with. -/
theorem first_row {E : Gr} {C : Int} (hl : Lens E C) {D : Nat → Nat → Int} (h0 : ∀ i, D i i = 0) (h1 : ∀ i j l, E i j l → D i j = l) (h2 : ∀ i j, i ≠ j → (∀ l, ¬ E i j l) → D i j = -1) (i : Nat) :
    DistRow (upTo E 0 i) i (D i) := by
  refine ⟨h0 i, fun v => ?_, fun u v l ⟨he, hui⟩ _ => ?_, fun v hv => ?_⟩
  · by_cases hiv : i = v
    · subst hiv; rw [h0]; omega
    · by_cases he : ∃ l, E i v l
      · obtain ⟨l, he⟩ := he
        rw [h1 i v l he]; have := (hl i v l he).1; omega
      · rw [h2 i v hiv (fun l h => he ⟨l, h⟩)]; omega
  · obtain rfl : u = i := by rcases hui with h | h <;> omega
    rw [h1 u v l he, h0]
    have := (hl u v l he).1; omega
  · by_cases hiv : i = v
    · exact .inl hiv.symm
    · by_cases he : ∃ l, E i v l
      · obtain ⟨l, he⟩ := he
        exact .inr ⟨i, l, ⟨he, .inl rfl⟩, by rw [h0]; omega, by rw [h1 i v l he, h0]; omega⟩
      · rw [h2 i v hiv (fun l h => he ⟨l, h⟩)] at hv; omega
theorem all_row {E : Gr} {n a : Nat} (hn : ∀ u v l, E u v l → u < n) {r : Nat → Int} (h : DistRow (upTo E n a) a r) : DistRow E a r :=
  ⟨h.self, h.low, fun u v l he => h.step u v l ⟨he, .inr (hn u v l he)⟩, fun v h0 => by
    rcases h.pred v h0 with h1 | ⟨u, l, ⟨he, _⟩, h2⟩
    · exact .inl h1
    · exact .inr ⟨u, l, he, h2⟩⟩

/-! The program: the nearest open point is closed. -/
structure OpenSt (E : Gr) (a : Nat) (r : Nat → Int) (cl : Nat → Prop) (op : List Nat) : Prop where
  self : r a = 0
  low : ∀ v, -1 ≤ r v
  known : ∀ v, 0 ≤ r v ↔ cl v ∨ v ∈ op
  apart : ∀ v, cl v → v ∉ op
  step : ∀ u v l, cl u → E u v l → 0 ≤ r v ∧ r v ≤ r u + l
  pred : ∀ v, 0 ≤ r v → v = a ∨ ∃ u l, cl u ∧ E u v l ∧ 0 ≤ r u ∧ r v = r u + l
  order : ∀ u v, cl u → v ∈ op → r u ≤ r v
theorem OpenSt.start {E : Gr} {a : Nat} {r : Nat → Int} (h0 : r a = 0) (h1 : ∀ v, v ≠ a → r v = -1) : OpenSt E a r (fun _ => False) [a] := by
  refine ⟨h0, fun v => ?_, fun v => ?_, fun v h => h.elim, fun u v l h => h.elim, fun v h => ?_, fun u v h => h.elim⟩
  · by_cases e : v = a
    · subst e; omega
    · have := h1 v e; omega
  · by_cases e : v = a
    · subst e; simp [h0]
    · have := h1 v e; simp [e]; omega
  · by_cases e : v = a
    · exact .inl e
    · have := h1 v e; omega
theorem OpenSt.done {E : Gr} {a : Nat} {r : Nat → Int} {cl : Nat → Prop} (h : OpenSt E a r cl []) : DistRow E a r :=
  ⟨h.self, h.low, (fun u v l he h0 => by
    rcases (h.known u).1 h0 with hc | hc
    · exact h.step u v l hc he
    · cases hc), (fun v h0 => by
    rcases h.pred v h0 with h1 | ⟨u, l, _, h2⟩
    · exact .inl h1
    · exact .inr ⟨u, l, h2⟩)⟩
/-- While the roads at a point are gone over: those in 'seen' are done. -/
structure CloseSt (E : Gr) (a at_ : Nat) (r : Nat → Int) (cl : Nat → Prop) (op : List Nat) (seen : List (Nat × Int)) : Prop where
  self : r a = 0
  low : ∀ v, -1 ≤ r v
  known : ∀ v, 0 ≤ r v ↔ cl v ∨ v = at_ ∨ v ∈ op
  apart : ∀ v, cl v ∨ v = at_ → v ∉ op
  notcl : ¬ cl at_
  step : ∀ u v l, cl u → E u v l → 0 ≤ r v ∧ r v ≤ r u + l
  here : ∀ v l, (v, l) ∈ seen → 0 ≤ r v ∧ r v ≤ r at_ + l
  pred : ∀ v, 0 ≤ r v → v = a ∨ ∃ u l, (cl u ∨ u = at_) ∧ E u v l ∧ 0 ≤ r u ∧ r v = r u + l
  order : ∀ u v, cl u ∨ u = at_ → v ∈ op → r u ≤ r v
  cle : ∀ u, cl u → r u ≤ r at_
theorem OpenSt.close {E : Gr} {a at_ : Nat} {r : Nat → Int} {cl : Nat → Prop} {op : List Nat} (h : OpenSt E a r cl op) (hat : at_ ∈ op) (hmin : ∀ v ∈ op, r at_ ≤ r v) : CloseSt E a at_ r cl (op.filter fun x => !(x == at_)) [] := by
  have hm : ∀ v, v ∈ op.filter (fun x => !(x == at_)) ↔ v ∈ op ∧ v ≠ at_ := fun v => by rw [List.mem_filter]; simp
  refine ⟨h.self, h.low, fun v => ?_, fun v hv => ?_, fun hc => h.apart _ hc hat, h.step, (fun v l hv => by cases hv), fun v h0 => ?_, fun u v hu hv => ?_, fun u hu => h.order u at_ hu hat⟩
  · rw [h.known v, hm]
    by_cases e : v = at_
    · subst e; simp [hat]
    · simp [e]
  · rw [hm]
    rcases hv with hv | rfl
    · exact fun ⟨h1, _⟩ => h.apart v hv h1
    · exact fun ⟨_, h2⟩ => h2 rfl
  · rcases h.pred v h0 with h1 | ⟨u, l, hc, h2⟩
    · exact .inl h1
    · exact .inr ⟨u, l, .inl hc, h2⟩
  · rw [hm] at hv
    rcases hu with hu | rfl
    · exact h.order u v hu hv.1
    · exact hmin v hv.1
def setF (r : Nat → Int) (x : Nat) (d : Int) : Nat → Int := fun v => if v = x then d else r v
theorem setF_same (r : Nat → Int) (x : Nat) (d : Int) : setF r x d x = d := by unfold setF; rw [if_pos rfl]
theorem setF_other {r : Nat → Int} {x v : Nat} {d : Int} (h : v ≠ x) : setF r x d v = r v := by unfold setF; rw [if_neg h]
/-- A road to a point that is nearer, or was not known. -/
theorem CloseSt.take {E : Gr} {C : Int} (hl : Lens E C) {a at_ : Nat} {r : Nat → Int} {cl : Nat → Prop} {op : List Nat} {seen : List (Nat × Int)} (h : CloseSt E a at_ r cl op seen) {x : Nat} {l : Int} (he : E at_ x l) (hx : x ≠ at_)
    (hd : r x < 0 ∨ (0 ≤ r x ∧ r at_ + l < r x)) {op' : List Nat} (hop : ∀ v, v ∈ op' ↔ v ∈ op ∨ v = x) : CloseSt E a at_ (setF r x (r at_ + l)) cl op' (seen ++ [(x, l)]) := by
  have hl1 := (hl at_ x l he).1
  have hat0 : 0 ≤ r at_ := (h.known at_).2 (.inr (.inl rfl))
  have hxcl : ¬ cl x := fun hc => by
    have h1 := h.cle x hc
    have h2 := (h.known x).2 (.inl hc)
    omega
  have hxa : x ≠ a := fun e => by subst e; have := h.self; omega
  have hle : ∀ v, 0 ≤ r v → setF r x (r at_ + l) v ≤ r v ∧ 0 ≤ setF r x (r at_ + l) v := fun v hv => by
    by_cases e : v = x
    · subst e; rw [setF_same]; omega
    · rw [setF_other e]; omega
  refine ⟨by rw [setF_other (Ne.symm hxa)]; exact h.self, fun v => ?_, fun v => ?_, fun v hv => ?_, h.notcl, fun u v m hu hm => ?_, fun v m hv => ?_, fun v hv => ?_, fun u v hu hv => ?_, fun u hu => ?_⟩
  · by_cases e : v = x
    · subst e; rw [setF_same]; omega
    · rw [setF_other e]; exact h.low v
  · rw [hop]
    by_cases e : v = x
    · subst e; rw [setF_same]; simp; omega
    · rw [setF_other e, h.known v]; simp [e]
  · rw [hop]
    rintro (h1 | rfl)
    · exact h.apart v hv h1
    · rcases hv with hv | hv
      · exact hxcl hv
      · exact hx hv
  · have hux : u ≠ x := fun e => hxcl (e ▸ hu)
    rw [setF_other hux]
    have h1 := h.step u v m hu hm
    have h2 := hle v h1.1
    omega
  · rw [setF_other (Ne.symm hx)]
    rcases List.mem_append.1 hv with hv | hv
    · have h1 := h.here v m hv
      have h2 := hle v h1.1
      omega
    · obtain ⟨rfl, rfl⟩ := Prod.mk.inj (List.mem_singleton.1 hv)
      rw [setF_same]; omega
  · by_cases e : v = x
    · subst e
      refine .inr ⟨at_, l, .inr rfl, he, ?_, ?_⟩
      · rw [setF_other (Ne.symm hx)]; exact hat0
      · rw [setF_same, setF_other (Ne.symm hx)]
    · rw [setF_other e] at hv ⊢
      rcases h.pred v hv with h1 | ⟨u, m, hu, hm, h0, hs⟩
      · exact .inl h1
      · have hux : u ≠ x := fun e => by
          subst e
          rcases hu with hu | hu
          · exact hxcl hu
          · exact hx hu
        exact .inr ⟨u, m, hu, hm, by rw [setF_other hux]; exact h0, by rw [setF_other hux]; exact hs⟩
  · have hux : u ≠ x := fun e => by
      subst e
      rcases hu with hu | hu
      · exact hxcl hu
      · exact hx hu
    rw [setF_other hux]
    by_cases e : v = x
    · subst e
      rw [setF_same]
      rcases hu with hu | rfl
      · have := h.cle u hu; omega
      · omega
    · rw [setF_other e]
      rcases (hop v).1 hv with hv | hv
      · exact h.order u v hu hv
      · exact absurd hv e
  · have hux : u ≠ x := fun e => hxcl (e ▸ hu)
    rw [setF_other hux, setF_other (Ne.symm hx)]
    exact h.cle u hu
/-- A road that is no nearer. -/
theorem CloseSt.skip {E : Gr} {a at_ : Nat} {r : Nat → Int} {cl : Nat → Prop} {op : List Nat} {seen : List (Nat × Int)} (h : CloseSt E a at_ r cl op seen) {x : Nat} {l : Int} (h0 : 0 ≤ r x) (hd : r x ≤ r at_ + l) : CloseSt E a at_ r cl op (seen ++ [(x, l)]) :=
  ⟨h.self, h.low, h.known, h.apart, h.notcl, h.step, (fun v m hv => by
      rcases List.mem_append.1 hv with hv | hv
      · exact h.here v m hv
      · obtain ⟨rfl, rfl⟩ := Prod.mk.inj (List.mem_singleton.1 hv)
        exact ⟨h0, hd⟩), h.pred, h.order, h.cle⟩
theorem CloseSt.closed {E : Gr} {a at_ : Nat} {r : Nat → Int} {cl : Nat → Prop} {op : List Nat} {seen : List (Nat × Int)} (h : CloseSt E a at_ r cl op seen) (hs : ∀ v l, E at_ v l → (v, l) ∈ seen) : OpenSt E a r (fun v => cl v ∨ v = at_) op :=
  ⟨h.self, h.low, fun v => by rw [h.known v, or_assoc], h.apart, (fun u v l hu he => by
    rcases hu with hu | rfl
    · exact h.step u v l hu he
    · exact h.here v l (hs v l he)), h.pred, h.order⟩
theorem OpenSt.lt {E : Gr} {a n : Nat} {r : Nat → Int} {cl : Nat → Prop} {op : List Nat} (h : OpenSt E a r cl op) (ha : a < n) (hn : ∀ u v l, E u v l → v < n) {v : Nat} (hv : 0 ≤ r v) : v < n := by
  rcases h.pred v hv with rfl | ⟨u, l, _, he, _⟩
  · exact ha
  · exact hn u v l he
theorem OpenSt.bound {E : Gr} {C : Int} (hC : 0 ≤ C) (hl : Lens E C) {a n : Nat} {r : Nat → Int} {cl : Nat → Prop} {op : List Nat} (h : OpenSt E a r cl op) (ha : a < n) (hn : ∀ u v l, E u v l → v < n) {v : Nat} (hv : 0 ≤ r v) : r v ≤ n * C :=
  dist_le hC h.self (fun u hu => h.lt ha hn hu) (fun v h0 => by
    rcases h.pred v h0 with h1 | ⟨u, l, _, he, h2, h3⟩
    · exact .inl h1
    · exact .inr ⟨u, l, (hl u v l he).1, (hl u v l he).2, h2, h3⟩) hv
theorem CloseSt.bound {E : Gr} {C : Int} (hC : 0 ≤ C) (hl : Lens E C) {a at_ n : Nat} {r : Nat → Int} {cl : Nat → Prop} {op : List Nat} {seen : List (Nat × Int)} (h : CloseSt E a at_ r cl op seen) (ha : a < n) (hn : ∀ u v l, E u v l → v < n) {v : Nat} (hv : 0 ≤ r v) : r v ≤ n * C :=
  dist_le hC h.self (fun u hu => by
    rcases h.pred u hu with rfl | ⟨w, l, _, he, _⟩
    · exact ha
    · exact hn w u l he) (fun v h0 => by
    rcases h.pred v h0 with h1 | ⟨u, l, _, he, h2, h3⟩
    · exact .inl h1
    · exact .inr ⟨u, l, (hl u v l he).1, (hl u v l he).2, h2, h3⟩) hv
theorem DistRow.bound {E : Gr} {C : Int} (hC : 0 ≤ C) (hl : Lens E C) {a n : Nat} {r : Nat → Int} (h : DistRow E a r) (ha : a < n) (hn : ∀ u v l, E u v l → v < n) {v : Nat} (hv : 0 ≤ r v) : r v ≤ n * C :=
  dist_le hC h.self (fun u hu => by
    rcases h.pred u hu with rfl | ⟨w, l, he, _⟩
    · exact ha
    · exact hn w u l he) (fun v h0 => by
    rcases h.pred v h0 with h1 | ⟨u, l, he, h2, h3⟩
    · exact .inl h1
    · exact .inr ⟨u, l, (hl u v l he).1, (hl u v l he).2, h2, h3⟩) hv
/-- Distances are the same in both directions. -/
theorem DistRow.way {E : Gr} {C : Int} (hl : Lens E C) {a b : Nat} {r s : Nat → Int} (hr : DistRow E a r) (hs : DistRow E b s) (hsym : ∀ u v l, E u v l → E v u l) : ∀ (k : Nat) (v : Nat), 0 ≤ r v → r v ≤ k → 0 ≤ s v → 0 ≤ s a ∧ s a ≤ s v + r v := by
  intro k
  induction k with
  | zero =>
    intro v h0 hk h1
    rcases hr.pred v h0 with rfl | ⟨u, l, he, hu, hv⟩
    · have := hr.self; omega
    · have := (hl u v l he).1; omega
  | succ k ih =>
    intro v h0 hk h1
    rcases hr.pred v h0 with rfl | ⟨u, l, he, hu, hv⟩
    · have := hr.self; omega
    · have h2 := (hl u v l he).1
      have h3 := hs.step v u l (hsym u v l he) h1
      have h4 := ih u hu (by omega) h3.1
      omega
theorem DistRow.symm {E : Gr} {C : Int} (hl : Lens E C) {a b : Nat} {r s : Nat → Int} (hr : DistRow E a r) (hs : DistRow E b s) (hsym : ∀ u v l, E u v l → E v u l) : r b = s a := by
  have l1 := hr.low b
  have l2 := hs.low a
  have e1 : 0 ≤ r b → 0 ≤ s a ∧ s a ≤ r b := fun h => by
    have := DistRow.way hl hr hs hsym (r b).toNat b h (by omega) (by rw [hs.self]; omega)
    rw [hs.self] at this; omega
  have e2 : 0 ≤ s a → 0 ≤ r b ∧ r b ≤ s a := fun h => by
    have := DistRow.way hl hs hr hsym (s a).toNat a h (by omega) (by rw [hr.self]; omega)
    rw [hr.self] at this; omega
  by_cases h1 : 0 ≤ r b
  · have := e1 h1; have := e2 (e1 h1).1; omega
  · by_cases h2 : 0 ≤ s a
    · have := e2 h2; omega
    · omega
/-- A way over a third point is never shorter. -/
theorem DistRow.tri {E : Gr} {C : Int} (hl : Lens E C) {a c : Nat} {r s : Nat → Int} (hr : DistRow E a r) (hs : DistRow E c s) (hc : 0 ≤ r c) : ∀ (k : Nat) (v : Nat), 0 ≤ s v → s v ≤ k → 0 ≤ r v ∧ r v ≤ r c + s v := by
  intro k
  induction k with
  | zero =>
    intro v h0 hk
    rcases hs.pred v h0 with rfl | ⟨u, l, he, hu, hv⟩
    · have := hs.self; omega
    · have := (hl u v l he).1; omega
  | succ k ih =>
    intro v h0 hk
    rcases hs.pred v h0 with rfl | ⟨u, l, he, hu, hv⟩
    · have := hs.self; omega
    · have h2 := (hl u v l he).1
      have h4 := ih u hu (by omega)
      have h3 := hr.step u v l he h4.1
      omega
end Go.Proofs.YtgimhjkijpcgjaaDoor
